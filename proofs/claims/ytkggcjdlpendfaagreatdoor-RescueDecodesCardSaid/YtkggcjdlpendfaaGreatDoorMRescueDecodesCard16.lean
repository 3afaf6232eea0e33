/- Contracts for the law RescueDecodesCard, part 16: what the functions that it reaches answer, for all arguments that the theorems name. -/
import Derived.Test.YtkggcjdlpendfaaGreatDoorMRescueDecodesCard15
import Derived.Test.YtkggcjdlpendfaaGreatDoorMRescueDecodesCard14
import Derived.Test.YtkggcjdlpendfaaGreatDoorMRescueDecodesCard9
import Derived.Test.YtkggcjdlpendfaaGreatDoorMRescueDecodesCard3
import Derived.Test.YtkggcjdlpendfaaGreatDoorMRescueDecodesCard2
import Derived.Test.YtkggcjdlpendfaaGreatDoorMRescueDecodesCard13
import Derived.Test.YtkggcjdlpendfaaGreatDoorMRescueDecodesCard1
namespace Go.Proofs.YtkggcjdlpendfaaGreatDoor
set_option linter.unusedVariables false
set_option linter.unusedSimpArgs false
open Go.RowKit
def segNext (r : Bool) (T1 T2 : List Tok) (D : List Bool) (first : Bool) (p : Nat) : Tok × Int × Nat :=
 let s := symZ (if first then T1 else T2) D p
 if s.2.2 ≠ 0 then ((0, 0, 0), s.2.2, if r then (if s.2.2 = 3 then D.length else p + 16) else p)
 else
  let wd := if first then s.1 else s.1 % 16
  if 12 < wd ∨ (first = false ∧ 11 < wd) then ((0, 0, 0), 4, if r then s.2.1 else p)
  else if D.length < s.2.1 + wd.toNat then ((0, 0, 0), 3, if r then s.2.1 else p)
  else ((s.1, wd, ((numB ((D.drop s.2.1).take wd.toNat) : Nat) : Int)), 0, s.2.1 + wd.toNat)
theorem segNext_sym {r : Bool} {T1 T2 : List Tok} {D : List Bool} {first : Bool} {p : Nat} (h : (symZ (if first then T1 else T2) D p).2.2 ≠ 0) : segNext r T1 T2 D first p = ((0, 0, 0), (symZ (if first then T1 else T2) D p).2.2, if r then (if (symZ (if first then T1 else T2) D p).2.2 = 3 then D.length else p + 16) else p) := by
 unfold segNext
 dsimp only
 rw [if_pos h]
theorem segNext_wide {r : Bool} {T1 T2 : List Tok} {D : List Bool} {first : Bool} {p p' : Nat} {s wd : Int} (h : symZ (if first then T1 else T2) D p = (s, p', 0)) (hw : (if first then s else s % 16) = wd) (hb : 12 < wd ∨ (first = false ∧ 11 < wd)) : segNext r T1 T2 D first p = ((0, 0, 0), 4, if r then p' else p) := by
 unfold segNext
 rw [h]
 dsimp only
 rw [if_neg (by simp), hw, if_pos hb]
theorem segNext_short {r : Bool} {T1 T2 : List Tok} {D : List Bool} {first : Bool} {p p' : Nat} {s wd : Int} (h : symZ (if first then T1 else T2) D p = (s, p', 0)) (hw : (if first then s else s % 16) = wd) (hb : ¬ (12 < wd ∨ (first = false ∧ 11 < wd))) (hl : D.length < p' + wd.toNat) : segNext r T1 T2 D first p = ((0, 0, 0), 3, if r then p' else p) := by
 unfold segNext
 rw [h]
 dsimp only
 rw [if_neg (by simp), hw, if_neg hb, if_pos hl]
theorem segNext_good {r : Bool} {T1 T2 : List Tok} {D : List Bool} {first : Bool} {p p' : Nat} {s wd : Int} (h : symZ (if first then T1 else T2) D p = (s, p', 0)) (hw : (if first then s else s % 16) = wd) (hb : ¬ (12 < wd ∨ (first = false ∧ 11 < wd))) (hl : ¬ D.length < p' + wd.toNat) : segNext r T1 T2 D first p = ((s, wd, ((numB ((D.drop p').take wd.toNat) : Nat) : Int)), 0, p' + wd.toNat) := by
 unfold segNext
 rw [h]
 dsimp only
 rw [if_neg (by simp), hw, if_neg hb, if_neg hl]
theorem segNext_same (T1 T2 : List Tok) (D : List Bool) (first : Bool) (p : Nat) : (segNext true T1 T2 D first p).1 = (segNext false T1 T2 D first p).1 ∧ (segNext true T1 T2 D first p).2.1 = (segNext false T1 T2 D first p).2.1 ∧
 ((segNext true T1 T2 D first p).2.1 = 0 → (segNext true T1 T2 D first p).2.2 = (segNext false T1 T2 D first p).2.2) := by
 by_cases h : (symZ (if first then T1 else T2) D p).2.2 ≠ 0
 ·rw [segNext_sym h, segNext_sym h]
  exact ⟨rfl, rfl, fun h0 => absurd h0 h⟩
 ·obtain ⟨s, p', e⟩ : ∃ s p', symZ (if first then T1 else T2) D p = (s, p', 0) := ⟨_, _, Prod.ext rfl (Prod.ext rfl (by simpa using h))⟩
  by_cases hb : 12 < (if first then s else s % 16) ∨ (first = false ∧ 11 < (if first then s else s % 16))
  ·rw [segNext_wide e rfl hb, segNext_wide e rfl hb]
   exact ⟨rfl, rfl, fun h0 => by cases h0⟩
  ·by_cases hl : D.length < p' + (if first then s else s % 16).toNat
   ·rw [segNext_short e rfl hb hl, segNext_short e rfl hb hl]
    exact ⟨rfl, rfl, fun h0 => by cases h0⟩
   ·rw [segNext_good e rfl hb hl, segNext_good e rfl hb hl]
    exact ⟨rfl, rfl, fun _ => rfl⟩
theorem wordIn_drop (D : List Bool) (p : Nat) (t : Tok) (hp : p ≤ D.length) : wordIn (D.drop p) 0 t = wordIn D p t := by
 unfold wordIn
 rw [List.drop_zero, List.length_drop, Nat.zero_add]
 congr 1
 rw [decide_eq_decide]
 omega
theorem symZ_drop (T : List Tok) (D : List Bool) (p : Nat) (hp : p ≤ D.length) : symZ T (D.drop p) 0 = ((symZ T D p).1, (symZ T D p).2.1 - p, (symZ T D p).2.2) ∧ p ≤ (symZ T D p).2.1 := by
 unfold symZ
 have hf : wordIn (D.drop p) 0 = wordIn D p := funext fun t => wordIn_drop D p t hp
 rw [hf]
 cases T.find? (wordIn D p) with
 | some t => exact ⟨by simp, by simp⟩
 | none =>
   refine ⟨?_, Nat.le_refl _⟩
   rw [List.length_drop]
   simp only [Nat.zero_add, Nat.sub_self, Prod.mk.injEq, true_and]
   by_cases h : D.length < p + 16
   ·rw [if_pos h, if_pos (by omega)]
   ·rw [if_neg h, if_neg (by omega)]
theorem symZ_mem {T : List Tok} {D : List Bool} {p : Nat} (hT : ∀ t ∈ T, 0 ≤ t.1 ∧ t.1 ≤ 255) : 0 ≤ (symZ T D p).1 ∧ (symZ T D p).1 ≤ 255 := by
 unfold symZ
 split
 ·next t ht => exact hT t (List.mem_of_find?_eq_some ht)
 ·exact ⟨by simp, by simp⟩
section
variable {σ : Type} {n1 n2 : σ → Tok × Int × σ}
def SameN (n1 n2 : σ → Tok × Int × σ) : Prop := ∀ s, (n1 s).1 = (n2 s).1 ∧ (n1 s).2.1 = (n2 s).2.1 ∧ ((n1 s).2.1 = 0 → (n1 s).2.2 = (n2 s).2.2)
def SameG (g h : Int × List Int × List Tok × σ) : Prop := g.1 = h.1 ∧ g.2.1 = h.2.1 ∧ g.2.2.1 = h.2.2.1 ∧ (g.1 = 0 → g.2.2.2 = h.2.2.2)
theorem goB_same (hs : SameN n1 n2) : ∀ (k i : Nat) (z : List Int) (all : List Tok) (s : σ), 64 - i ≤ k → SameG (goB n1 i z all s) (goB n2 i z all s) := by
 intro k
 induction k with
 | zero =>
   intro i z all s h
   rw [goB.eq_def n1, goB.eq_def n2, dif_neg (by omega), dif_neg (by omega)]
   exact ⟨rfl, rfl, rfl, fun _ => rfl⟩
 | succ k ih =>
   intro i z all s h
   rw [goB.eq_def n1, goB.eq_def n2]
   by_cases hi : i < 64
   ·rw [dif_pos hi, dif_pos hi]
    obtain ⟨h1, h2, h3⟩ := hs s
    rw [← h1, ← h2]
    by_cases he : (n1 s).2.1 ≠ 0
    ·rw [if_pos he, if_pos he]
     exact ⟨rfl, rfl, rfl, fun h0 => absurd h0 he⟩
    ·rw [if_neg he, if_neg he, ← h3 (by simpa using he)]
     split
     ·exact ⟨rfl, rfl, rfl, fun h0 => rfl⟩
     ·split
      ·exact ⟨rfl, rfl, rfl, fun h0 => rfl⟩
      ·split
       ·exact ⟨rfl, rfl, rfl, fun h0 => rfl⟩
       ·exact ih _ _ _ _ (by omega)
   ·rw [dif_neg hi, dif_neg hi]
    exact ⟨rfl, rfl, rfl, fun _ => rfl⟩
theorem blkZ_same {m1 m2 : Bool → σ → Tok × Int × σ} (hs : ∀ b, SameN (m1 b) (m2 b)) (before : Int) (s : σ) : SameG (blkZ m1 before s) (blkZ m2 before s) := by
 unfold blkZ
 obtain ⟨h1, h2, h3⟩ := hs true s
 rw [← h1, ← h2]
 by_cases he : (m1 true s).2.1 ≠ 0
 ·rw [if_pos he, if_pos he]
  exact ⟨rfl, rfl, rfl, fun h0 => absurd h0 he⟩
 ·rw [if_neg he, if_neg he, ← h3 (by simpa using he)]
  split
  ·exact ⟨rfl, rfl, rfl, fun h0 => rfl⟩
  ·dsimp only
   have hg := goB_same (hs false) 64 1 ((List.replicate 64 0).set 0 (before + (backR (m1 true s).1.2.1 (m1 true s).1.2.2).1)) [(m1 true s).1] (m1 true s).2.2 (by omega)
   generalize goB (m1 false) 1 ((List.replicate 64 0).set 0 (before + (backR (m1 true s).1.2.1 (m1 true s).1.2.2).1)) [(m1 true s).1] (m1 true s).2.2 = g at *
   generalize goB (m2 false) 1 ((List.replicate 64 0).set 0 (before + (backR (m1 true s).1.2.1 (m1 true s).1.2.2).1)) [(m1 true s).1] (m1 true s).2.2 = g' at *
   obtain ⟨a1, a2, a3, a4⟩ := g
   obtain ⟨b1, b2, b3, b4⟩ := g'
   obtain ⟨e1, e2, e3, e4⟩ := hg
   dsimp only at e1 e2 e3 e4 ⊢
   subst e1 e2 e3
   split
   ·next h => exact ⟨rfl, rfl, rfl, fun h0 => absurd h0 h⟩
   ·next h =>
    have := e4 (by simpa using h)
    subst this
    exact ⟨rfl, rfl, rfl, fun _ => rfl⟩
theorem goB_keep0 (next : σ → Tok × Int × σ) : ∀ (k i : Nat) (z : List Int) (all : List Tok) (s : σ), 64 - i ≤ k → 1 ≤ i → (goB next i z all s).2.1.getD 0 0 = z.getD 0 0 := by
 intro k
 induction k with
 | zero => intro i z all s h _; rw [goB.eq_def, dif_neg (by omega)]
 | succ k ih =>
   intro i z all s h h1
   rw [goB.eq_def]
   by_cases hi : i < 64
   ·rw [dif_pos hi]
    split
    ·rfl
    ·split
     ·rfl
     ·split
      ·rfl
      ·split
       ·rfl
       ·rw [ih _ _ _ _ (by omega) (by omega)]
        rw [List.getD_eq_getElem?_getD, List.getElem?_set_ne (by omega), ← List.getD_eq_getElem?_getD]
   ·rw [dif_neg hi]
theorem blkZ_head (next : Bool → σ → Tok × Int × σ) (before : Int) (s : σ) (h : (blkZ next before s).1 = 0) : -2047 ≤ (blkZ next before s).2.1.getD 0 0 ∧ (blkZ next before s).2.1.getD 0 0 ≤ 2047 := by
 unfold blkZ at h ⊢
 by_cases he : (next true s).2.1 ≠ 0
 ·rw [if_pos he] at h; exact absurd h he
 ·rw [if_neg he] at h ⊢
  cases ht : tokOk1 before (next true s).1 with
  | false => simp [ht] at h
  | true =>
    rw [ht, if_neg (by simp)] at h
    rw [if_neg (by simp)]
    dsimp only at h ⊢
    have hk := goB_keep0 (next false) 64 1 ((List.replicate 64 0).set 0 (before + (backR (next true s).1.2.1 (next true s).1.2.2).1)) [(next true s).1] (next true s).2.2 (by omega) (by omega)
    generalize goB (next false) 1 ((List.replicate 64 0).set 0 (before + (backR (next true s).1.2.1 (next true s).1.2.2).1)) [(next true s).1] (next true s).2.2 = g at *
    unfold tokOk1 at ht
    have ht := of_decide_eq_true ht
    by_cases hg : g.1 ≠ 0
    ·rw [if_pos hg] at h; exact absurd h hg
    ·rw [if_neg hg] at h ⊢
     by_cases hz : tokensZ before g.2.1 = g.2.2.1
     ·rw [if_pos hz]
      dsimp only
      have h0 := zfrom_get g.2.1 64 0 (by omega) (by omega)
      rw [show (zigAt 0).toNat = 0 by decide] at h0
      rw [h0, hk, show ((List.replicate 64 (0 : Int)).set 0 (before + (backR (next true s).1.2.1 (next true s).1.2.2).1)).getD 0 0 = before + (backR (next true s).1.2.1 (next true s).1.2.2).1 from rfl]
      exact ⟨ht.2.2.1, ht.2.2.2⟩
     ·rw [if_neg hz] at h; cases h
end
theorem guardTok : Tryz.prog.eqGuardType Tryz.prog.depth 149 = false := by kernel_rfl
theorem run_guardTok (w : World) (op : BinOp) (x y : Operand) (xs ys : Array Value) : (eqGuard op 149 x y (.agg xs) (.agg ys)).run Tryz.prog w = .ok () w := run_eqGuard_agg w op _ x y xs ys guardTok
theorem stoodTok : Tryz.prog.stoodInHeld 149 = false := by kernel_rfl
theorem run_eqTok (w : World) (t u : Tok) : (Op.equalIn 10000 149 (.agg (tokv t).toArray) (.agg (tokv u).toArray)).run Tryz.prog w = .ok (decide (t = u)) w := by
 have p0 : ∀ (v : Tok), (part 3 (tokv v).toArray 0).run Tryz.prog w = .ok (.int .i64 v.1) w := fun v => run_part_int w 3 Tryz.underlying3 [v.1, v.2.1, v.2.2] 0 (by simp)
 have p1 : ∀ (v : Tok), (part 3 (tokv v).toArray 1).run Tryz.prog w = .ok (.int .i64 v.2.1) w := fun v => run_part_int w 3 Tryz.underlying3 [v.1, v.2.1, v.2.2] 1 (by simp)
 have p2 : ∀ (v : Tok), (part 3 (tokv v).toArray 2).run Tryz.prog w = .ok (.int .i64 v.2.2) w := fun v => run_part_int w 3 Tryz.underlying3 [v.1, v.2.1, v.2.2] 2 (by simp)
 have hi := fun a b => run_equalIn_int w 9998 3 .i64 .i64 a b Tryz.underlying3
 have hst : Tryz.prog.underlying 149 = some (.struct (Tryz.prog.fieldsOf 149)) := by kernel_rfl
 rw [run_equalIn_struct w 9999 149 _ _ hst stoodTok]
 have hf : (Tryz.prog.fieldsOf 149).toList = [{ name := "Sym", type := 3, offset := 0, embedded := false, tag := "", pkgPath := "", byteOffset := 0 }, { name := "Width", type := 3, offset := 1, embedded := false, tag := "", pkgPath := "", byteOffset := 8 }, { name := "Value", type := 3, offset := 2, embedded := false, tag := "", pkgPath := "", byteOffset := 16 }] := by kernel_rfl
 rw [hf]
 simp only [Op.eqFields, ne_eq, show ("Sym" = "_") = False by decide, show ("Width" = "_") = False by decide, show ("Value" = "_") = False by decide, not_false_eq_true, if_true, Sem.run_bind, p0, p1, p2, hi, Result.andThen_ok, Sem.run_ite, Sem.run_pure]
 obtain ⟨a, b, c⟩ := t
 obtain ⟨a', b', c'⟩ := u
 by_cases h1 : a = a' <;> by_cases h2 : b = b' <;> by_cases h3 : c = c' <;> simp [h1, h2, h3]
theorem run_neqTok (w : World) (t u : Tok) : (binOp .neq 149 (.agg (tokv t).toArray) (.agg (tokv u).toArray)).run Tryz.prog w = .ok (.bool (!decide (t = u))) w := by
 rw [run_neq_struct, run_eqTok]
 rfl
theorem tokv_len (t : Tok) : (tokv t).length = 3 := rfl
theorem toks_part (T : List Tok) (k : Nat) (h : k < T.length) : ((toks T).drop (k * 3)).take 3 = tokv T[k] := by
 refine List.ext_getElem? fun j => ?_
 obtain ⟨a, b, c⟩ := toks_at T k h
 by_cases hj : j < 3
 ·rw [List.getElem?_take_of_lt hj, List.getElem?_drop]
  match j, hj with
  | 0, _ => simpa [tokv] using a
  | 1, _ => simpa [tokv] using b
  | 2, _ => simpa [tokv] using c
 ·rw [List.getElem?_eq_none (by rw [List.length_take]; omega), List.getElem?_eq_none (by rw [tokv_len]; omega)]
theorem size74 : (Tryz.prog.info? 149).map (·.size) = some 3 := by kernel_rfl
theorem tok_take_iff (T U : List Tok) (k : Nat) (h1 : k < T.length) (h2 : k < U.length) : T.take (k + 1) = U.take (k + 1) ↔ T.take k = U.take k ∧ T[k] = U[k] := take_succ_iff T U k h1 h2
theorem tok_oneA (t : Tok) : (tokv t).toArray.all (·.oneCell') = true := by
 rw [Array.all_eq_true']
 intro x hx
 simp [tokv] at hx
 rcases hx with rfl | rfl | rfl <;> rfl
set_option maxHeartbeats 1000000 in
theorem eqTok_any (u v : Value) (T U : List Tok) (w : World) (hu : SL w 3 u T.length (toks T)) (hv : SL w 3 v U.length (toks U)) :
 Calls Tryz.prog 194 #[u, v] w fun e w' => e = .returned (.bool (decide (T = U))) ∧ Ext w w' := by
 have hu' := hu
 have hv' := hv
 obtain ⟨A, c, rfl, hc1, hc2, -, -⟩ := hu'
 obtain ⟨B, d, rfl, hd1, hd2, -, -⟩ := hv'
 by_cases hl : T.length = U.length
 ·have HE : Hid (T.length = U.length) := hl
  obtain ⟨n, hn⟩ : ∃ n, n = T.length := ⟨_, rfl⟩
  have HTN : Hid (T.length = n) := hid_ hn.symm
  have HUN : Hid (U.length = n) := hid_ (by rw [← hl, hn])
  rw [← hl] at hv hd1 ⊢
  rw [← hn] at hu hv hc1 hd1 ⊢
  have e1 : ((n : Int) != (n : Int)) = false := by simp
  obtain ⟨res, hres⟩ : ∃ r, r = decide (T = U) := ⟨_, rfl⟩
  have HR := hid_ hres
  rw [← hres]
  clear hl hn hres
  go_enter Tryz.func194, Tryz.ntmps194
  go_wp2_with fail
  go_loopw [14] (fun i wr => ∃ k : Nat, k ≤ n ∧ i = .int .i64 k ∧ Hid (T.take k = U.take k) ∧ Ext w wr) (fun i _ => n - (intOf i).toNat)
  case atStart => exact ⟨0, by omega, rfl, hid_ (by simp), Ext.refl w⟩
  case round =>
   obtain ⟨k, hk, rfl, HT, hx⟩ := hrel
   by_cases hlt : k < n
   ·obtain ⟨ad, rfl, hab, hca⟩ := (hu.ext hx).part hlt
    obtain ⟨bd, rfl, hbb, hcb⟩ := (hv.ext hx).part hlt
    have hkT : k < T.length := by rw [HTN.out]; exact hlt
    have hkU : k < U.length := by rw [HUN.out]; exact hlt
    rw [toks_part T k hkT] at hca
    rw [toks_part U k hkU] at hcb
    have HQ := hid_ (tok_take_iff T U k hkT hkU)
    generalize ht : T[k] = t at *
    generalize hu2 : U[k] = t' at *
    have HTt := hid_ ht
    have HTu := hid_ hu2
    clear ht hu2
    have HCA := hid_ hca
    clear hca
    go_wp2_with (first
     | (refine wpList_load_any (by rfl) 149 (.tmp 17) rfl (ad.add (k * 3)) rfl (tokv t) _ HCA.out Tryz.underlying149 rfl size74 ?_)
     | (refine wAlo' rfl (some 6) rfl 149 rfl (.agg (tokv (0, 0, 0)).toArray) (by kernel_rfl) ?_; intro w2 g2 hb2 hx2 hg2)
     | (refine wStB rfl 149 (.tmp 6) (.tmp 18) rfl _ _ rfl rfl hb2 3 size74 rfl rfl (tok_oneA t) ?_; intro w3 hb3 hg3; have hx3 := hx2.grown hg3 (by omega)))
    have hx3' := hx3.drew
    have hb3' := hb3.drew
    have HCB : Hid (∀ W, Ext w3.drew W → CellsAt W (bd.add (k * 3)) (tokv t')) := hid_ (fun W hW j q hq => by
     rw [((hx3'.trans hW).cell (p := (bd.add (k * 3)).add j) (by rw [block_of_add, block_of_add]; exact hbb))]
     exact hcb j q hq)
    refine wp_region_lx later_ext (by kernel_rfl) (by kernel_rfl) ?_
    refine lx_load_blk (by rfl) 149 (.tmp 6) rfl g2 rfl (fun w h => hb3'.ext h) _ Tryz.underlying149 rfl 3 size74 rfl ?_
    simp only [Act.put, sA, sB, sC]
    iterate 3 (refine lx_ex (by rfl) ?_; apply Exists.intro; refine ⟨fun w hw => ?_, ?_⟩; · (go_simp; with_reducible rfl)
               simp only [Act.put, sA, sB, sC])
    refine lx_load_any (by rfl) 149 (.tmp 22) rfl (bd.add (k * 3)) rfl (tokv t') _ HCB.out Tryz.underlying149 rfl size74 ?_
    simp only [Act.put, sA, sB, sC]
    refine lx_binOp (by rfl) .neq 149 _ _ _ rfl (.agg (tokv t).toArray) (.agg (tokv t').toArray) rfl rfl (.bool (!decide (t = t'))) (fun W => run_guardTok W _ _ _ _ _) (fun W => run_neqTok W t t') ?_
    simp only [Act.put, sA, sB, sC]
    refine lx_nil ?_
    intro w4 hx4
    by_cases hq : t = t'
    ·have HH : Hid (T.take (k + 1) = U.take (k + 1)) := hid_ (HQ.out.2 ⟨HT.out, hq⟩)
     rw [decide_eq_true hq]
     clear hq
     go_wp2_with fail
     go_roundw
     case rel => exact ⟨k + 1, by omega, by go_num, HH, (hx.trans hx3').trans hx4⟩
     case measure => simp [intOf]; omega
    ·have hne : T ≠ U := by
      intro h
      apply hq
      have h1 := HTt.out
      have h2 := HTu.out
      subst h
      exact h1.symm.trans h2
     have HN := hid_ hne
     rw [decide_eq_false hq]
     clear hq hne
     go_wp2_with fail
     go_ret
     refine ⟨?_, (hx.trans hx3').trans hx4⟩
     rw [HR.out, decide_eq_false HN.out]; rfl
   ·go_wp2_with fail
    go_ret
    refine ⟨?_, hx⟩
    have e : T = U := by
     have := HT.out
     rwa [List.take_of_length_le (by rw [HTN.out]; omega), List.take_of_length_le (by rw [HUN.out]; omega)] at this
    rw [HR.out, decide_eq_true e]; rfl
 ·have hne : decide (T = U) = false := decide_eq_false (fun h => hl (by rw [h]))
  have e1 : ((T.length : Int) != (U.length : Int)) = true := by simp; omega
  rw [hne]
  clear hne hl
  go_enter Tryz.func194, Tryz.ntmps194
  go_wp2_with fail
  go_ret
  exact ⟨rfl, Ext.refl w⟩
set_option maxHeartbeats 1000000 in
theorem seqTok_any (u v : Value) (T U : List Tok) (w : World) (hu : SL w 3 u T.length (toks T)) (hv : SL w 3 v U.length (toks U)) :
 Calls Tryz.prog 190 #[u, v] w fun e w' => e = .returned (.bool (decide (T = U))) ∧ Ext w w' := by
 have hu' := hu
 have hv' := hv
 obtain ⟨A, c, rfl, hc1, hc2, -, -⟩ := hu'
 obtain ⟨B, d, rfl, hd1, hd2, -, -⟩ := hv'
 by_cases hl : T.length = U.length
 ·have HE : Hid (T.length = U.length) := hl
  obtain ⟨n, hn⟩ : ∃ n, n = T.length := ⟨_, rfl⟩
  have HTN : Hid (T.length = n) := hid_ hn.symm
  have HUN : Hid (U.length = n) := hid_ (by rw [← hl, hn])
  rw [← hl] at hv hd1 ⊢
  rw [← hn] at hu hv hc1 hd1 ⊢
  have e1 : ((n : Int) != (n : Int)) = false := by simp
  obtain ⟨res, hres⟩ : ∃ r, r = decide (T = U) := ⟨_, rfl⟩
  have HR := hid_ hres
  rw [← hres]
  clear hl hn hres
  go_enter Tryz.func190, Tryz.ntmps190
  go_wp2_with fail
  go_loopw [13] (fun i wr => ∃ k : Nat, k ≤ n ∧ i = .int .i64 k ∧ Hid (T.take k = U.take k) ∧ Ext w wr) (fun i _ => n - (intOf i).toNat)
  case atStart => exact ⟨0, by omega, rfl, hid_ (by simp), Ext.refl w⟩
  case round =>
   obtain ⟨k, hk, rfl, HT, hx⟩ := hrel
   by_cases hlt : k < n
   ·obtain ⟨ad, rfl, hab, hca⟩ := (hu.ext hx).part hlt
    obtain ⟨bd, rfl, hbb, hcb⟩ := (hv.ext hx).part hlt
    have hkT : k < T.length := by rw [HTN.out]; exact hlt
    have hkU : k < U.length := by rw [HUN.out]; exact hlt
    rw [toks_part T k hkT] at hca
    rw [toks_part U k hkU] at hcb
    have HQ := hid_ (tok_take_iff T U k hkT hkU)
    generalize ht : T[k] = t at *
    generalize hu2 : U[k] = t' at *
    have HTt := hid_ ht
    have HTu := hid_ hu2
    clear ht hu2
    have HCA := hid_ hca
    clear hca
    have HCA' : Hid (∀ W, Ext wr.drew W → CellsAt W (ad.add (k * 3)) (tokv t)) := hid_ (fun W hW j q hq => by
     rw [(hW.cell (p := (ad.add (k * 3)).add j) (by rw [block_of_add, block_of_add]; exact hab))]
     exact HCA.out j q hq)
    have HCB : Hid (∀ W, Ext wr.drew W → CellsAt W (bd.add (k * 3)) (tokv t')) := hid_ (fun W hW j q hq => by
     rw [(hW.cell (p := (bd.add (k * 3)).add j) (by rw [block_of_add, block_of_add]; exact hbb))]
     exact hcb j q hq)
    have hx3' := hx.drew
    go_wp2_with fail
    refine wp_region_lx later_ext (by kernel_rfl) (by kernel_rfl) ?_
    iterate 3 (refine lx_ex (by rfl) ?_; apply Exists.intro; refine ⟨fun w hw => ?_, ?_⟩; · (go_simp; with_reducible rfl)
               simp only [Act.put, sA, sB, sC])
    refine lx_load_any (by rfl) 149 (.tmp 18) rfl (ad.add (k * 3)) rfl (tokv t) _ HCA'.out Tryz.underlying149 rfl size74 ?_
    simp only [Act.put, sA, sB, sC]
    iterate 3 (refine lx_ex (by rfl) ?_; apply Exists.intro; refine ⟨fun w hw => ?_, ?_⟩; · (go_simp; with_reducible rfl)
               simp only [Act.put, sA, sB, sC])
    refine lx_load_any (by rfl) 149 (.tmp 22) rfl (bd.add (k * 3)) rfl (tokv t') _ HCB.out Tryz.underlying149 rfl size74 ?_
    simp only [Act.put, sA, sB, sC]
    refine lx_binOp (by rfl) .neq 149 _ _ _ rfl (.agg (tokv t).toArray) (.agg (tokv t').toArray) rfl rfl (.bool (!decide (t = t'))) (fun W => run_guardTok W _ _ _ _ _) (fun W => run_neqTok W t t') ?_
    simp only [Act.put, sA, sB, sC]
    refine lx_nil ?_
    intro w4 hx4
    by_cases hq : t = t'
    ·have HH : Hid (T.take (k + 1) = U.take (k + 1)) := hid_ (HQ.out.2 ⟨HT.out, hq⟩)
     rw [decide_eq_true hq]
     clear hq
     go_wp2_with fail
     go_roundw
     case rel => exact ⟨k + 1, by omega, by go_num, HH, hx3'.trans hx4⟩
     case measure => simp [intOf]; omega
    ·have hne : T ≠ U := by
      intro h
      apply hq
      have h1 := HTt.out
      have h2 := HTu.out
      subst h
      exact h1.symm.trans h2
     have HN := hid_ hne
     rw [decide_eq_false hq]
     clear hq hne
     go_wp2_with fail
     go_ret
     refine ⟨?_, hx3'.trans hx4⟩
     rw [HR.out, decide_eq_false HN.out]; rfl
   ·go_wp2_with fail
    go_ret
    refine ⟨?_, hx⟩
    have e : T = U := by
     have := HT.out
     rwa [List.take_of_length_le (by rw [HTN.out]; omega), List.take_of_length_le (by rw [HUN.out]; omega)] at this
    rw [HR.out, decide_eq_true e]; rfl
 ·have hne : decide (T = U) = false := decide_eq_false (fun h => hl (by rw [h]))
  have e1 : ((T.length : Int) != (U.length : Int)) = true := by simp; omega
  rw [hne]
  clear hne hl
  go_enter Tryz.func190, Tryz.ntmps190
  go_wp2_with fail
  go_ret
  exact ⟨rfl, Ext.refl w⟩
theorem sizeTok : (Tryz.prog.info? 149).map (·.size) = some 3 := by kernel_rfl
theorem zeroTok : (Tryz.prog.info? 149).bind (·.zero) = some (.agg (tokv (0, 0, 0)).toArray) := by kernel_rfl
theorem elt_tok : Elt Tryz.prog 145 149 3 24 := ⟨Tryz.underlying145, by kernel_rfl, by omega⟩
theorem bitsZ_bd (n : Int) : 0 ≤ (bitsZ n).1 ∧ (bitsZ n).1 ≤ 12 := by
 unfold bitsZ
 split
 ·next h => have := (szN_spec n h.1 h.2).1; simp; omega
 ·simp
theorem three_one (a b c : Int) : (#[Value.int .i64 a, .int .i64 b, .int .i64 c] : Array Value).all (·.oneCell') = true := by
 rw [Array.all_eq_true']
 intro x hx
 simp at hx
 rcases hx with rfl | rfl | rfl <;> rfl
theorem or_add : ∀ r : Fin 16, ∀ x : Fin 13, bits .or .i64 ((r.val : Int) * 16) (x.val : Int) = 16 * (r.val : Int) + (x.val : Int) := by decide
theorem rtoken_any (r n : Int) (w : World) (h0 : 0 ≤ r) (h1 : r ≤ 15) : Calls Tryz.prog 159 #[.int .i64 r, .int .i64 n] w fun e w' => e = .returned (.agg (tokv (tokZ r n)).toArray) ∧ Ext w w' := by
 have HB := hid_ (fun W => rsizeBits_any n W)
 obtain ⟨b1, b2⟩ := bitsZ_bd n
 have HT := hid_ (show tokv (tokZ r n) = [.int .i64 (16 * r + (bitsZ n).1), .int .i64 (bitsZ n).1, .int .i64 (bitsZ n).2.1] from rfl)
 generalize tokZ r n = tk at *
 generalize bitsZ n = b at *
 obtain ⟨x1, x2, x3⟩ := b
 go_enter Tryz.func159, Tryz.ntmps159
 go_wp2_with (first
  | (refine wAlo' rfl (some 4) rfl 149 rfl _ zeroTok ?_; intro w1 g1 hb1 hx1 hg1)
  | (go_at_call 186; (with_reducible refine (HB.out _).mono ?_); rintro e w' ⟨rfl, rfl⟩)
  | (refine wStB rfl 149 (.tmp 4) (.tmp 20) rfl _ _ rfl rfl hb1 3 sizeTok rfl rfl (three_one _ _ _) ?_; intro w5 hb5 hg5))
 refine ret_cell rfl rfl _ rfl hb5 _ Tryz.underlying149 rfl 3 sizeTok rfl ⟨by rw [HT.out], hx1.grown hg5 hg1⟩
theorem token_any (r : Nat) (m : Int) (w : World) (h1 : r ≤ 15) : Calls Tryz.prog 209 #[.int .i64 r, .int .i64 m] w fun e w' => e = .returned (.agg (tokv (tokZ r m)).toArray) ∧ Ext w w' := by
 have HB := hid_ (fun W => sizeBits_any m W)
 obtain ⟨b1, b2⟩ := bitsZ_bd m
 have HT := hid_ (show tokv (tokZ r m) = [.int .i64 (16 * r + (bitsZ m).1), .int .i64 (bitsZ m).1, .int .i64 (bitsZ m).2.1] from rfl)
 generalize tokZ r m = tk at *
 generalize bitsZ m = b at *
 obtain ⟨x1, x2, x3⟩ := b
 obtain ⟨x1, rfl⟩ : ∃ k : Nat, x1 = k := ⟨x1.toNat, by simp at b1; omega⟩
 have HO : bits .or .i64 ((r : Int) * 16) (x1 : Int) = 16 * (r : Int) + (x1 : Int) := or_add ⟨r, by omega⟩ ⟨x1, by simp at b2; omega⟩
 go_enter Tryz.func209, Tryz.ntmps209
 go_wp2_with (first
  | (refine wAlo' rfl (some 4) rfl 149 rfl _ zeroTok ?_; intro w1 g1 hb1 hx1 hg1)
  | (go_at_call 216; (with_reducible refine (HB.out _).mono ?_); rintro e w' ⟨rfl, rfl⟩)
  | (refine wStB rfl 149 (.tmp 4) (.tmp 20) rfl _ _ rfl rfl hb1 3 sizeTok rfl rfl (three_one _ _ _) ?_; intro w5 hb5 hg5))
 refine ret_cell rfl rfl _ rfl hb5 _ Tryz.underlying149 rfl 3 sizeTok rfl ⟨by rw [HT.out], hx1.grown hg5 hg1⟩
theorem own_ext {w w' : World} {base : Nat} {e : TypeId} {size n : Nat} {v : Value} {xs : List Value} (h : w.ownsRow base e size v n xs) (hb : Ext w w') : w'.ownsRow base e size v n xs := by
 obtain ⟨hl, hh⟩ := h
 refine ⟨hl, ?_⟩
 rcases hh with ⟨rfl, rfl⟩ | ⟨g, cap, cur, rfl, h1, hg, h2⟩
 ·exact .inl ⟨rfl, rfl⟩
 ·exact .inr ⟨g, cap, cur, rfl, h1, (hb.block g (Blk.lt (w := w) (t := e) (cs := cur) hg)).trans hg, h2⟩
theorem one_sl3 (w : World) (T : TypeId) (a b c : Value) : SL (w.alloc (.cells #[a, b, c] T)) 3 (.slice (some ⟨w.heap.size, 0, none⟩) 1 1) 1 [a, b, c] := by
 have := (Blk.new w T #[a, b, c]).sl (size := 3) (n := 1) (c := 1) rfl (by omega) (by omega)
 simpa using this
theorem own_built3 {w : World} {base : Nat} (e : TypeId) (a b c : Value) (hb : base ≤ w.heap.size) :
 (w.alloc (.cells #[a, b, c] e)).ownsRow base e 3 (.slice (some ⟨w.heap.size, 0, none⟩) 1 1) 1 [a, b, c] :=
 ⟨rfl, .inr ⟨w.heap.size, 1, #[a, b, c], rfl, hb, heap_alloc_new w _, by omega, by unfold maxLen; omega, rfl, by simp⟩⟩
theorem tok_one (a b c : Int) : ∀ u ∈ [Value.int .i64 a, .int .i64 b, .int .i64 c], u.oneCell' = true := by
 intro u hu
 simp at hu
 rcases hu with rfl | rfl | rfl <;> rfl
theorem own_tok {w : World} {base : Nat} {e : TypeId} {v : Value} {T : List Tok} {a b c : Int} (h : w.ownsRow base e 3 v (T.length + 1) (toks T ++ [.int .i64 a, .int .i64 b, .int .i64 c])) : w.ownsRow base e 3 v (T ++ [(a, b, c)]).length (toks (T ++ [(a, b, c)])) := by
 simpa [toks, tokv] using h
theorem tokv_out (t : Tok) : (tokv t).toArray = #[.int .i64 t.1, .int .i64 t.2.1, .int .i64 t.2.2] := rfl
set_option maxHeartbeats 1000000 in
theorem tokens_any (before : Int) (zs : List Int) (w : World) (hz : zs.length = 64) (hb1 : -2047 ≤ before) (hb2 : before ≤ 2047) (h01 : -2047 ≤ (zto zs).getD 0 0) (h02 : (zto zs).getD 0 0 ≤ 2047) :
 Calls Tryz.prog 191 #[.int .i64 before, .agg (bv zs)] w fun e w' => ∃ A c, e = .returned (.slice A (tokensZ before (zto zs)).length c) ∧ SL w' 3 (.slice A (tokensZ before (zto zs)).length c) (tokensZ before (zto zs)).length (toks (tokensZ before (zto zs))) ∧ (∀ ad, A = some ad → w.heap.size ≤ ad.block) ∧ Ext w w' := by
 have HZT := hid_ (fun W => zto_any zs W hz)
 have hZl := zto_len zs
 have hsz := hid_ ((bv_size zs).trans hz)
 have hst := hid_ ((bv_size _).trans hZl)
 have hot := hid_ (bv_one (zto zs))
 generalize hZ : zto zs = Z at *
 clear hZ
 have h0l : 0 < Z.length := by omega
 have e0 : Z.getD 0 0 = Z[0] := by simp [h0l]
 rw [e0] at h01 h02
 have HAT := hid_ (fun k (hk : k < Z.length) => bv_at Z k hk)
 have HF : Hid (tokensZ before Z = if 0 < (accT (tokZ 0 (Z[0] - before)) (Z.drop 1) 63).2 then (accT (tokZ 0 (Z[0] - before)) (Z.drop 1) 63).1 ++ [(0, 0, 0)] else (accT (tokZ 0 (Z[0] - before)) (Z.drop 1) 63).1) := hid_ (by unfold tokensZ; rw [e0])
 have HT0 : Hid (∀ W, Calls Tryz.prog 209 #[.int .i64 0, .int .i64 (Z[0] - before)] W fun e w' => e = .returned (.agg (tokv (tokZ 0 (Z[0] - before))).toArray) ∧ Ext W w') := hid_ (fun W => by simpa using token_any 0 (Z[0] - before) W (by omega))
 simp only [tokv_out] at HT0
 generalize hcz : bv Z = cz at *
 generalize bv zs = c0 at *
 clear hcz hz e0
 generalize ht : tokZ 0 (Z[0] - before) = t0 at *
 clear ht
 have hll : (Z.drop 1).length = 63 := by simp; omega
 have HLL := hid_ hll
 have HLK : Hid (∀ k (h : k < (Z.drop 1).length) (h2 : k + 1 < Z.length), (Z.drop 1)[k] = Z[k + 1]) := hid_ (fun k h h2 => by simp)
 generalize hl : Z.drop 1 = l at *
 clear hl hll
 go_enter Tryz.func191, Tryz.ntmps191
 go_wp2_with (first
  | (refine wBox rfl 33 (.tmp 1) rfl c0 rfl ?_; intro w1 g hbb1 hx1 hg)
  | (refine wLdB rfl 33 (.tmp 3) rfl _ rfl hbb1 _ Tryz.underlying33 rfl 64 size48 hsz.out ?_)
  | (go_at_call 80; (with_reducible refine (HZT.out _).mono ?_); rintro e w2 ⟨rfl, hx2⟩; have hbb2 := hbb1.ext hx2)
  | (refine wStB rfl 33 (.tmp 3) (.tmp 10) rfl _ _ rfl rfl hbb2 64 size48 hst.out hsz.out hot.out ?_; intro w3 hbb3 hg3; have hc0 : w3.cell? ⟨g, 0, none⟩ = some (.int .i64 Z[0]) := (hbb3.cell 0).trans (HAT.out 0 h0l))
  | (go_at_call 209; (with_reducible refine (HT0.out _).mono ?_); rintro e w4 ⟨rfl, hx4⟩))
 have hown0 := own_built3 (w := w4) (base := w3.heap.size) 149 (.int .i64 t0.1) (.int .i64 t0.2.1) (.int .i64 t0.2.2) hx4.size
 have hx5 := hx4.alloc (.cells #[.int .i64 t0.1, .int .i64 t0.2.1, .int .i64 t0.2.2] 149)
 have hbb5 := hbb3.ext hx5
 have hglt := hbb3.lt
 have hxw : Ext w w3 := (hx1.trans hx2).grown hg3 hg
 have HB0 : Hid (w.heap.size ≤ w3.heap.size) := hid_ hxw.size
 clear hbb1 hbb2 hx1 hx2 hg3 hc0 hx4 HZT HT0
 generalize hw5 : w4.alloc (.cells #[.int .i64 t0.1, .int .i64 t0.2.1, .int .i64 t0.2.2] 149) = w5 at *
 clear hw5
 go_loopw [5, 6, 19] (fun v r i wr => ∃ k : Nat, k ≤ 63 ∧ i = .int .i64 k ∧ r = .int .i64 ((accT t0 l k).2 : Nat) ∧ wr.ownsRow w3.heap.size 149 3 v (accT t0 l k).1.length (toks (accT t0 l k).1) ∧ Blk wr g 33 cz ∧ Ext w3 wr) (fun _ _ i _ => 63 - (intOf i).toNat)
 case atStart => exact ⟨0, by omega, rfl, rfl, hown0, hbb5, hx5⟩
 case round =>
  clear hown0 hbb5 hx5
  obtain ⟨k, hk, rfl, rfl, hown, hbb, hx⟩ := hrel
  obtain ⟨b1, b2⟩ := accT_bd t0 l k (by have := HLL.out; omega) (by omega)
  by_cases hlt : k < 63
  ·have hkl : k < l.length := by have := HLL.out; omega
   have hkZ : k + 1 < Z.length := by omega
   have HS := hid_ (accT_succ t0 l k hkl)
   have hcell : wr.cell? ⟨g, 1 + k, none⟩ = some (.int .i64 l[k]) := by
    rw [Nat.add_comm 1 k]
    exact (hbb.cell (k + 1)).trans (by rw [HAT.out (k + 1) hkZ, HLK.out k hkl hkZ])
   generalize accT t0 l k = s at *
   obtain ⟨acc, rn⟩ := s
   simp only at b1 b2 hown ⊢
   by_cases hz0 : l[k] = 0
   ·rw [stepT_zero hz0] at HS
    generalize hnk : accT t0 l (k + 1) = s1 at *
    have HS1 := HS.out
    have hz0' : (l[k] == 0) = true := by simpa using hz0
    clear hz0 HS
    go_wp2_with fail
    go_roundw
    case rel =>
     refine ⟨k + 1, by omega, by go_num, by rw [hnk, HS1]; simp, by rw [hnk, HS1]; exact hown, hbb, hx⟩
    case measure => simp [intOf]; omega
   ·rw [stepT_one hz0] at HS
    have hz0' : (l[k] == 0) = false := by simpa using hz0
    have HTK := hid_ (fun W => token_any (rn % 16) l[k] W (by omega))
    simp only [tokv_out] at HTK
    generalize tokZ ((rn % 16 : Nat) : Int) l[k] = tk at *
    generalize hnk : accT t0 l (k + 1) = s1 at *
    have HS1 := hid_ HS.out
    have HNK := hid_ hnk
    clear hz0 HS hnk
    go_wp2_with fail
    go_loopw [5, 6] (fun v r wr2 => ∃ j : Nat, j ≤ rn / 16 ∧ r = .int .i64 ((rn : Int) - 16 * j) ∧ wr2.ownsRow w3.heap.size 149 3 v (acc ++ List.replicate j long).length (toks (acc ++ List.replicate j long)) ∧ Blk wr2 g 33 cz ∧ Ext w3 wr2) (fun _ r _ => (intOf r).toNat)
    case atStart => exact ⟨0, by omega, by simp, by simpa using hown, hbb, hx⟩
    case round =>
     clear hown hbb hx
     obtain ⟨j, hj, rfl, hown, hbb, hx⟩ := hrel
     have hlen : (acc ++ List.replicate j long).length = acc.length + j := by simp
     by_cases hj2 : j < rn / 16
     ·have hgt : (15 : Int) < (rn : Int) - 16 * j := by omega
      go_wp2_with (at_builtin; go_must (refine wpList_append_sl elt_tok rfl _ _ rfl w3.heap.size _ _ _ rfl (hown.alloc _) _ 1 [.int .i64 _, .int .i64 _, .int .i64 _] rfl (one_sl3 _ _ _ _ _) (tok_one _ _ _) (by omega) (by omega) (by have := hx.size; simp; omega) ?_); intro v' w7 hown7 hb7)
      go_roundw
      case rel =>
       refine ⟨j + 1, by omega, by congr 1; omega, ?_, (hbb.alloc _).below hb7 hglt, (hx.alloc _).trans' hb7⟩
       rw [List.replicate_succ', ← List.append_assoc]
       exact own_tok hown7
      case measure => simp [intOf]; omega
     ·obtain rfl : j = rn / 16 := by omega
      have e : (rn : Int) - 16 * ((rn / 16 : Nat) : Int) = ((rn % 16 : Nat) : Int) := by omega
      rw [e]
      clear e hj hj2
      have hq : rn % 16 ≤ 15 := by omega
      generalize rn % 16 = q at *
      go_wp2_with (first
       | (go_at_call 209; (with_reducible refine (HTK.out _).mono ?_); rintro e w6 ⟨rfl, hx6⟩)
       | (at_builtin; go_must (refine wpList_append_sl elt_tok rfl _ _ rfl w3.heap.size _ _ _ rfl ((own_ext hown hx6).alloc _) _ 1 [.int .i64 _, .int .i64 _, .int .i64 _] rfl (one_sl3 _ _ _ _ _) (tok_one _ _ _) (by omega) (by omega) (by have := hx.size; have := hx6.size; simp; omega) ?_); intro v' w7 hown7 hb7))
      go_roundw
      case rel =>
       refine ⟨k + 1, by omega, by go_num, by rw [HNK.out, HS1.out]; rfl, ?_, ((hbb.ext hx6).alloc _).below hb7 hglt, ((hx.trans hx6).alloc _).trans' hb7⟩
       rw [HNK.out, HS1.out]
       exact own_tok hown7
      case measure => simp [intOf]; omega
  ·have ek : k = 63 := by omega
   subst ek
   generalize accT t0 l 63 = s at *
   obtain ⟨acc, rn⟩ := s
   simp only at b1 b2 hown HF
   by_cases hr : 0 < rn
   ·rw [if_pos hr] at HF
    go_wp2_with (at_builtin; go_must (refine wpList_append_sl elt_tok rfl _ _ rfl w3.heap.size _ _ _ rfl (hown.alloc _) _ 1 [.int .i64 _, .int .i64 _, .int .i64 _] rfl (one_sl3 _ _ _ _ _) (tok_one _ _ _) (by omega) (by omega) (by have := hx.size; simp; omega) ?_); intro v' w7 hown7 hb7)
    go_ret
    rw [HF.out]
    obtain ⟨A, c, rfl, hsl, hfs⟩ := own_form (own_tok hown7)
    exact ⟨A, c, rfl, hsl, fun ad h => Nat.le_trans HB0.out (hfs ad h), hxw.trans ((hx.alloc _).trans' hb7)⟩
   ·rw [if_neg hr] at HF
    go_wp2_with fail
    go_ret
    rw [HF.out]
    obtain ⟨A, c, rfl, hsl, hfs⟩ := own_form hown
    exact ⟨A, c, rfl, hsl, fun ad h => Nat.le_trans HB0.out (hfs ad h), hxw.trans hx⟩
theorem results_cell_tmp2 {fn : Func} {p u v : Tmp} {ty : TypeId} (h : fn.results = #[.cell p ty, .tmp u, .tmp v]) (tmps : Array Value) (P : Program) (w : World) :
 (results fn tmps).run P w =
   ((asAddr (tmps.getD p undef)).run P w).andThen fun a w₁ => ((loadVar ty a).run P w₁).andThen fun x w₂ => .ok (.tuple #[x, tmps.getD u undef, tmps.getD v undef]) w₂ := by
 simp only [results, h]
 simp [Sem.run_bind, Result.andThen]
theorem ret_cell_tmp2 {P : Program} {a : Act} {w : World} {fn : Func} {R : Ending → World → Prop} {p u v : Tmp} {ty : TypeId} (h : fn.results = #[.cell p ty, .tmp u, .tmp v]) (hdf : a.defers = []) (g : Nat) {t : TypeId} {cs : Array Value}
 (hp : a.tmps.getD p undef = .pointer (some ⟨g, 0, none⟩)) (hB : Blk w g t cs) (d : TypeDesc) (hu : P.underlying ty = some d) (hd : (match d with | .struct _ | .array _ _ => true | _ => false) = true)
 (n : Nat) (hs : (P.info? ty).map (·.size) = some n) (hn : cs.size = n) (hR : R (.returned (.tuple #[.agg cs, a.tmps.getD u undef, a.tmps.getD v undef])) w) : bodyPost P fn R .ret a w := by
 refine bodyPost_ret ?_ hdf hR
 rw [results_cell_tmp2 h]
 have e := run_loadVar_row (P := P) w g t ty cs (0, 0) d hB hu hd (by rw [hn]; exact hs)
 simp [hp, asAddr, e, Result.andThen]
def I64 (x : Int) : Prop := -9223372036854775808 ≤ x ∧ x ≤ 9223372036854775807
section
variable {σ : Type}
structure Src (f : FuncId) (pre post : Array Value) (B : Nat) (S : Nat → Prop) (Inv : World → σ → Prop) (next : Bool → σ → Tok × Int × σ) : Prop where
 low : ∀ b, S b → b < B
 ask : ∀ first s W, Inv W s → B ≤ W.heap.size → Calls Tryz.prog f (pre ++ #[.bool first] ++ post) W fun e w' => e = .returned (.tuple #[.agg (tokv (next first s).1).toArray, .int .i64 (next first s).2.1]) ∧ Inv w' (next first s).2.2 ∧ Upd S W w'
 keep : ∀ s W W', Inv W s → Upd (fun b => B ≤ b) W W' → Inv W' s
 wf : ∀ first s W, Inv W s → (next first s).2.1 = 0 → I64 (next first s).1.1 ∧ I64 (next first s).1.2.1 ∧ I64 (next first s).1.2.2
theorem upd_sub {S S' : Nat → Prop} {w w' : World} (h : Upd S w w') (hs : ∀ b, S b → S' b) : Upd S' w w' := ⟨h.os, h.tape, h.output, h.size, fun b hb hn => h.block b hb (fun k => hn (hs b k))⟩
theorem upd_of_ext {S : Nat → Prop} {w w' : World} (h : Ext w w') : Upd S w w' := Upd.of_ext h
structure From (B : Nat) (S : Nat → Prop) (Inv : World → σ → Prop) (w0 w : World) (gb gr : Nat) (T24 : TypeId) (z : List Int) (A : Option Addr) (c : Nat) (L : List Tok) (s : σ) : Prop where
 b : Blk w gb T24 (bv z)
 r : Blk w gr T24 (bv (List.replicate 64 0))
 hb : B ≤ gb
 hr : B ≤ gr
 ne : gb ≠ gr
 row : w.ownsRow B 149 3 (.slice A L.length c) L.length (toks L)
 inv : Inv w s
 upd : Upd (fun x => S x ∨ B ≤ x) w0 w
 size : B ≤ w.heap.size
variable {f : FuncId} {pre post : Array Value} {B : Nat} {S : Nat → Prop} {Inv : World → σ → Prop} {next : Bool → σ → Tok × Int × σ} {w0 w w' : World} {gb gr : Nat} {z : List Int} {A : Option Addr} {c : Nat} {L : List Tok} {s s' : σ} {T24 : TypeId}
theorem own_block {e : TypeId} {size n : Nat} {xs : List Value} {v : Value} (h : w.ownsRow B e size v n xs) : ∀ x, v.ownBlock = some x → B ≤ x := fun x hx => (h.lt x hx).1
theorem From.ext (h : From B S Inv w0 w gb gr T24 z A c L s) (C : Src f pre post B S Inv next) (hx : Ext w w') : From B S Inv w0 w' gb gr T24 z A c L s :=
 ⟨h.b.ext hx, h.r.ext hx, h.hb, h.hr, h.ne, own_keep h.row hx, C.keep _ _ _ h.inv (upd_of_ext hx), h.upd.trans (upd_of_ext (S := fun _ => False) hx) (fun x k => k.elim), Nat.le_trans h.size hx.size⟩
theorem From.asked (h : From B S Inv w0 w gb gr T24 z A c L s) (C : Src f pre post B S Inv next) (hu : Upd S w w') (hi : Inv w' s') : From B S Inv w0 w' gb gr T24 z A c L s' :=
 ⟨hu.blk h.b (fun k => by have := C.low _ k; have := h.hb; omega), hu.blk h.r (fun k => by have := C.low _ k; have := h.hr; omega), h.hb, h.hr, h.ne,
  own_upd2 h.row hu (fun x hx k => by have := own_block h.row x hx; have := C.low _ k; omega), hi, h.upd.trans hu (fun x k => .inl (.inl k)), Nat.le_trans h.size hu.size⟩
theorem From.wrote (h : From B S Inv w0 w gb gr T24 z A c L s) (C : Src f pre post B S Inv next) {g : Nat} (hg : w.grownBy w' (some g)) (hB : B ≤ g) (h1 : gb ≠ g) (h2 : gr ≠ g) (h3 : ∀ x, (Value.slice A L.length c).ownBlock = some x → x ≠ g) : From B S Inv w0 w' gb gr T24 z A c L s := by
 have hu := upd_grown hg
 exact ⟨hu.blk h.b (fun k => h1 (Option.some.inj k).symm), hu.blk h.r (fun k => h2 (Option.some.inj k).symm), h.hb, h.hr, h.ne, own_upd2 h.row hu (fun x hx k => h3 x hx (Option.some.inj k).symm),
  C.keep _ _ _ h.inv (upd_sub hu (fun b k => by have := Option.some.inj k; omega)), h.upd.trans hu (fun x k => .inl (.inr (by have := Option.some.inj k; omega))), Nat.le_trans h.size hu.size⟩
theorem From.apart (h : From B S Inv w0 w gb gr T24 z A c L s) (hT : T24 ≠ 149) : ∀ x, (Value.slice A L.length c).ownBlock = some x → gb ≠ x ∧ gr ≠ x := by
 intro x hx
 obtain ⟨-, hh⟩ := h.row
 rcases hh with ⟨e, -⟩ | ⟨g, cap, cur, e, -, hg, -⟩
 ·rw [e] at hx; cases hx
 ·rw [e] at hx
  have hx : g = x := Option.some.inj hx
  subst hx
  exact ⟨Blk.ne_ h.b (w := w) (g' := g) (t' := 149) (cs' := cur) hg hT, Blk.ne_ h.r (w := w) (g' := g) (t' := 149) (cs' := cur) hg hT⟩
theorem From.app (h : From B S Inv w0 w gb gr T24 z A c L s) (C : Src f pre post B S Inv next) (hT : T24 ≠ 149) {A' : Option Addr} {c' : Nat} {t : Tok}
 (ho : w'.ownsRow B 149 3 (.slice A' (L.length + 1) c') (L.length + 1) (toks L ++ tokv t)) (hg : w.grownBy w' (Value.slice A L.length c).ownBlock) : From B S Inv w0 w' gb gr T24 z A' c' (L ++ [t]) s := by
 have hu := upd_grown hg
 have ha := h.apart hT
 have hlo := own_block h.row
 refine ⟨hu.blk h.b (fun k => (ha _ k).1 rfl), hu.blk h.r (fun k => (ha _ k).2 rfl), h.hb, h.hr, h.ne, ?_, C.keep _ _ _ h.inv (upd_sub hu (fun b k => hlo _ k)), h.upd.trans hu (fun x k => .inl (.inr (hlo _ k))), Nat.le_trans h.size hu.size⟩
 have e1 : (L ++ [t]).length = L.length + 1 := by simp
 have e2 : toks (L ++ [t]) = toks L ++ tokv t := by simp [toks]
 rw [e1, e2]
 exact ho
theorem From.set (h : From B S Inv w0 w gb gr T24 z A c L s) (C : Src f pre post B S Inv next) (hT : T24 ≠ 149) (k : Nat) (x : Int) : From B S Inv w0 (w.setCell ⟨gb, k, none⟩ (.int .i64 x)) gb gr T24 (z.set k x) A c L s := by
 have hu : Upd (fun b => b = gb) w (w.setCell ⟨gb, k, none⟩ (.int .i64 x)) := Upd.setCell (S := fun b => b = gb) (Upd.refl _ w) (p := ⟨gb, k, none⟩) rfl _
 refine ⟨?_, hu.blk h.r (fun k => h.ne k.symm), h.hb, h.hr, h.ne, own_upd2 h.row hu (fun y hy k => (h.apart hT y hy).1 k.symm), C.keep _ _ _ h.inv (upd_sub hu (fun b k => by rw [k]; exact h.hb)), h.upd.trans hu (fun x k => .inl (.inr (by rw [k]; exact h.hb))), Nat.le_trans h.size hu.size⟩
 have := h.b.set_ k (.int .i64 x)
 rwa [bv_set] at this
theorem From.fresh (h : From B S Inv w0 w gb gr T24 z A c L s) {g : Nat} (hg : w.heap.size ≤ g) : B ≤ g ∧ gb ≠ g ∧ gr ≠ g ∧ ∀ x, (Value.slice A L.length c).ownBlock = some x → x ≠ g :=
 ⟨Nat.le_trans h.size hg, by have := h.b.lt; omega, by have := h.r.lt; omega, fun x hx => by have := (h.row.lt x hx).2; omega⟩
theorem From.made (h : From B S Inv w0 w gb gr T24 z A c L s) (C : Src f pre post B S Inv next) {g : Nat} {w3 : World} (hx : Ext w w3) (hg : w.heap.size ≤ g) (hw : w3.grownBy w' (some g)) : From B S Inv w0 w' gb gr T24 z A c L s := by
 obtain ⟨h1, h2, h3, h4⟩ := h.fresh hg
 exact (h.ext C hx).wrote C hw h1 h2 h3 h4
theorem From.putb (h : From B S Inv w0 w gb gr T24 z A c L s) (C : Src f pre post B S Inv next) (hT : T24 ≠ 149) {z' : List Int} (hg : w.grownBy w' (some gb)) (hb : Blk w' gb T24 (bv z')) : From B S Inv w0 w' gb gr T24 z' A c L s := by
 have hu := upd_grown hg
 exact ⟨hb, hu.blk h.r (fun k => h.ne (Option.some.inj k)), h.hb, h.hr, h.ne, own_upd2 h.row hu (fun x hx k => (h.apart hT x hx).1 (Option.some.inj k)),
  C.keep _ _ _ h.inv (upd_sub hu (fun b k => by have := Option.some.inj k; have := h.hb; omega)), h.upd.trans hu (fun x k => .inl (.inr (by have := Option.some.inj k; have := h.hb; omega))), Nat.le_trans h.size hu.size⟩
theorem From.fin (h : From B S Inv w0 w gb gr T24 z A c L s) (C : Src f pre post B S Inv next) (hT : T24 ≠ 149) (hg : w.grownBy w' (some gr)) (hB : B = w0.heap.size) : Inv w' s ∧ Upd S w0 w' ∧ SL w' 3 (.slice A L.length c) L.length (toks L) := by
 have hu := upd_grown hg
 have hq := h.upd.trans hu (S' := fun b => some gr = some b) (fun x k => .inl (.inr (by have := Option.some.inj k; have := h.hr; omega)))
 refine ⟨C.keep _ _ _ h.inv (upd_sub hu (fun b k => by have := Option.some.inj k; have := h.hr; omega)), ?_, own_sl (own_upd2 h.row hu (fun x hx k => (h.apart hT x hx).2 (Option.some.inj k)))⟩
 exact ⟨hq.os, hq.tape, hq.output, hq.size, fun b hb hn => hq.block b hb (fun k => k.elim hn (fun k => by omega))⟩
end
theorem own_lower {w : World} {B B' : Nat} {e : TypeId} {size n : Nat} {v : Value} {xs : List Value} (h : w.ownsRow B e size v n xs) (hb : B' ≤ B) : w.ownsRow B' e size v n xs := by
 obtain ⟨hl, hh⟩ := h
 refine ⟨hl, ?_⟩
 rcases hh with ⟨rfl, rfl⟩ | ⟨g, cap, cur, rfl, h1, h2⟩
 ·exact .inl ⟨rfl, rfl⟩
 ·exact .inr ⟨g, cap, cur, rfl, by omega, h2⟩
set_option maxRecDepth 20000 in
set_option maxHeartbeats 1000000 in
theorem rtokens_own (before : Int) (zs : List Int) (w : World) (hz : zs.length = 64) (hb1 : -2047 ≤ before) (hb2 : before ≤ 2047) (hal : allIn zs (-2047) 2047 = true) (h01 : -2047 ≤ (zto zs).getD 0 0) (h02 : (zto zs).getD 0 0 ≤ 2047) :
 Calls Tryz.prog 105 #[.int .i64 before, .agg (bv zs)] w fun e w' => ∃ A c, e = .returned (.tuple #[.slice A (tokensZ before (zto zs)).length c, .int .i64 0]) ∧ w'.ownsRow w.heap.size 149 3 (.slice A (tokensZ before (zto zs)).length c) (tokensZ before (zto zs)).length (toks (tokensZ before (zto zs))) ∧ Ext w w' := by
 have HZT := hid_ (fun W => rzto_any zs W hz)
 have HOB := hid_ (fun W => outside_any before (-2047) 2047 W)
 rw [inB_iff.2 ⟨hb1, hb2⟩] at HOB
 have HBW := hid_ (fun W => blockWithin_any zs (-2047) 2047 W hz)
 rw [hal] at HBW
 have hZl := zto_len zs
 have hsz := hid_ ((bv_size zs).trans hz)
 have hst := hid_ ((bv_size _).trans hZl)
 have hot := hid_ (bv_one (zto zs))
 have hs0 : Hid ((Value.agg (bv zeros64)).cells.size = 64) := hid_ (by rw [show (Value.agg (bv zeros64)).cells = bv zeros64 from rfl, bv_size]; rfl)
 have hz0 := zero48
 have HZ0 := hid_ hz0
 clear hz0
 generalize hZ : zto zs = Z at *
 clear hZ hal
 have h0l : 0 < Z.length := by omega
 have e0 : Z.getD 0 0 = Z[0] := by simp [h0l]
 rw [e0] at h01 h02
 have HAT := hid_ (fun k (hk : k < Z.length) => bv_at Z k hk)
 have HF : Hid (tokensZ before Z = if 0 < (accT (tokZ 0 (Z[0] - before)) (Z.drop 1) 63).2 then (accT (tokZ 0 (Z[0] - before)) (Z.drop 1) 63).1 ++ [(0, 0, 0)] else (accT (tokZ 0 (Z[0] - before)) (Z.drop 1) 63).1) := hid_ (by unfold tokensZ; rw [e0])
 have HT0 := hid_ (fun W => rtoken_any 0 (Z[0] - before) W (by omega) (by omega))
 simp only [tokv_out] at HT0
 generalize bv zeros64 = cz0 at *
 generalize hcz : bv Z = cz at *
 generalize bv zs = c0 at *
 clear hcz hz e0
 generalize ht : tokZ 0 (Z[0] - before) = t0 at *
 clear ht
 have hll : (Z.drop 1).length = 63 := by simp; omega
 have HLL := hid_ hll
 have HLK : Hid (∀ k (h : k < (Z.drop 1).length) (h2 : k + 1 < Z.length), (Z.drop 1)[k] = Z[k + 1]) := hid_ (fun k h h2 => by simp)
 generalize hl : Z.drop 1 = l at *
 clear hl hll
 go_enter Tryz.func105, Tryz.ntmps105
 go_wp2_with (first
  | (refine wBox rfl 33 (.tmp 1) rfl c0 rfl ?_; intro w1 gb hbb1 hx1 hgb)
  | (go_at_call 54; (with_reducible refine (HOB.out _).mono ?_); rintro e w' ⟨rfl, rfl⟩)
  | (refine wpList_load_blk_g (by rfl) 33 (.tmp 3) rfl _ rfl hbb1 _ Tryz.underlying33 rfl 64 size48 hsz.out ?_)
  | (go_at_call 67; (with_reducible refine (HBW.out _).mono ?_); rintro e w2 ⟨rfl, hx2⟩; have hbb2 := hbb1.ext hx2)
  | (refine wLdB rfl 33 (.tmp 3) rfl _ rfl hbb2 _ Tryz.underlying33 rfl 64 size48 hsz.out ?_)
  | (go_at_call 158; (with_reducible refine (HZT.out _).mono ?_); rintro e w3 ⟨rfl, hx3⟩)
  | (refine wAlo' rfl (some 6) rfl 33 rfl _ HZ0.out ?_; intro w4 g hbb4 hx4 hg)
  | (refine wStB rfl 33 (.tmp 6) (.tmp 19) rfl _ _ rfl rfl hbb4 64 size48 hst.out hs0.out hot.out ?_; intro w5 hbb5 hg5; have hc0 : w5.cell? ⟨g, 0, none⟩ = some (.int .i64 Z[0]) := (hbb5.cell 0).trans (HAT.out 0 h0l))
  | (go_at_call 159; (with_reducible refine (HT0.out _).mono ?_); rintro e w6 ⟨rfl, hx6⟩))
 have hown0 := own_built3 (w := w6) (base := w5.heap.size) 149 (.int .i64 t0.1) (.int .i64 t0.2.1) (.int .i64 t0.2.2) hx6.size
 have hx7 := hx6.alloc (.cells #[.int .i64 t0.1, .int .i64 t0.2.1, .int .i64 t0.2.2] 149)
 have hbb7 := hbb5.ext hx7
 have hglt := hbb5.lt
 have hxw : Ext w w5 := (((hx1.trans hx2).trans hx3).trans hx4).grown hg5 (by have := ((hx1.trans hx2).trans hx3).size; omega)
 clear hbb1 hbb2 hbb4 hx1 hx2 hx3 hx4 hg5 hc0 hx6 HZT HT0
 generalize hw7 : w6.alloc (.cells #[.int .i64 t0.1, .int .i64 t0.2.1, .int .i64 t0.2.2] 149) = w7 at *
 clear hw7
 go_loopw [7, 8, 9] (fun v r i wr => ∃ (k m : Nat) (la : Int), k ≤ 63 ∧ m = k + 1 ∧ i = .int .i64 (m : Int) ∧ r = .int .i64 la ∧ la = (k : Int) - ((accT t0 l k).2 : Nat) ∧ wr.ownsRow w5.heap.size 149 3 v (accT t0 l k).1.length (toks (accT t0 l k).1) ∧ Blk wr g 33 cz ∧ Ext w5 wr) (fun _ _ i _ => 64 - (intOf i).toNat)
 case atStart => exact ⟨0, 1, 0, by omega, rfl, rfl, rfl, by simp [accT_zero], hown0, hbb7, hx7⟩
 case round =>
  clear hown0 hbb7 hx7
  obtain ⟨k, m, la, hk, hm, rfl, rfl, hla, hown, hbb, hx⟩ := hrel
  obtain ⟨b1, b2⟩ := accT_bd t0 l k (by have := HLL.out; omega) (by omega)
  by_cases hlt : k < 63
  ·have hkl : k < l.length := by have := HLL.out; omega
   have hkZ : k + 1 < Z.length := by omega
   have HS := hid_ (accT_succ t0 l k hkl)
   have hcell : wr.cell? ⟨g, m, none⟩ = some (.int .i64 l[k]) := by rw [hm]; exact (hbb.cell (k + 1)).trans (by rw [HAT.out (k + 1) hkZ, HLK.out k hkl hkZ])
   generalize accT t0 l k = s at *
   obtain ⟨acc, rn⟩ := s
   simp only at b1 b2 hown hla ⊢
   have hm1 : 1 ≤ m := by omega
   have hm2 : m < 64 := by omega
   have HM := hid_ hm
   have HLA := hid_ hla
   have hgap : (m : Int) - la - 1 = (rn : Int) := by omega
   have hlb : -64 ≤ la ∧ la ≤ 64 := by omega
   obtain ⟨hlb1, hlb2⟩ := hlb
   clear hm hla
   by_cases hz0 : l[k] = 0
   ·rw [stepT_zero hz0] at HS
    generalize hnk : accT t0 l (k + 1) = s1 at *
    have HS1 := HS.out
    have hz0' : (l[k] == 0) = true := by simpa using hz0
    clear hz0 HS
    go_wp2_with fail
    go_roundw
    case rel =>
     refine ⟨k + 1, m + 1, la, by omega, by rw [HM.out], by go_num, rfl, by rw [hnk, HS1]; have := HLA.out; simp; omega, by rw [hnk, HS1]; exact hown, hbb, hx⟩
    case measure => simp [intOf]; omega
   ·rw [stepT_one hz0] at HS
    have hz0' : (l[k] == 0) = false := by simpa using hz0
    have HTK := hid_ (fun W => rtoken_any ((rn : Int) % 16) l[k] W (by omega) (by omega))
    simp only [tokv_out] at HTK
    rw [show ((rn % 16 : Nat) : Int) = (rn : Int) % 16 by omega] at HS
    generalize tokZ ((rn : Int) % 16) l[k] = tk at *
    generalize hnk : accT t0 l (k + 1) = s1 at *
    have HS1 := hid_ HS.out
    have HNK := hid_ hnk
    clear hz0 HS hnk
    go_wp2_with fail
    go_loopw [7, 40] (fun v r wr2 => ∃ j : Nat, j ≤ rn / 16 ∧ r = .int .i64 (j : Int) ∧ wr2.ownsRow w5.heap.size 149 3 v (acc ++ List.replicate j long).length (toks (acc ++ List.replicate j long)) ∧ Blk wr2 g 33 cz ∧ Ext w5 wr2) (fun _ r _ => rn / 16 - (intOf r).toNat)
    case atStart => exact ⟨0, by omega, rfl, by simpa using hown, hbb, hx⟩
    case round =>
     clear hown hbb hx hcell
     obtain ⟨j, hj, rfl, hown, hbb, hx⟩ := hrel
     have hlen : (acc ++ List.replicate j long).length = acc.length + j := by simp
     by_cases hj2 : j < rn / 16
     ·have hgt : decide ((j : Int) < (rn : Int) / 16) = true := by simp; omega
      go_wp2_with (at_builtin; go_must (refine wpList_append_sl elt_tok rfl _ _ rfl w5.heap.size _ _ _ rfl (hown.alloc _) _ 1 [.int .i64 _, .int .i64 _, .int .i64 _] rfl (one_sl3 _ _ _ _ _) (tok_one _ _ _) (by omega) (by omega) (by have := hx.size; simp; omega) ?_); intro v' w8 hown8 hb8)
      go_roundw
      case rel =>
       refine ⟨j + 1, by omega, by go_num, ?_, (hbb.alloc _).below hb8 hglt, (hx.alloc _).trans' hb8⟩
       rw [List.replicate_succ', ← List.append_assoc]
       exact own_tok hown8
      case measure => simp [intOf]; omega
     ·obtain rfl : j = rn / 16 := by omega
      have hgt : decide (((rn / 16 : Nat) : Int) < (rn : Int) / 16) = false := by simp
      have hcell2 : wr.cell? ⟨g, m, none⟩ = some (.int .i64 l[k]) := by rw [HM.out]; exact (hbb.cell (k + 1)).trans (by rw [HAT.out (k + 1) hkZ, HLK.out k hkl hkZ])
      go_wp2_with (first
       | (go_at_call 159; (with_reducible refine (HTK.out _).mono ?_); rintro e w8 ⟨rfl, hx8⟩)
       | (at_builtin; go_must (refine wpList_append_sl elt_tok rfl _ _ rfl w5.heap.size _ _ _ rfl ((own_ext hown hx8).alloc _) _ 1 [.int .i64 _, .int .i64 _, .int .i64 _] rfl (one_sl3 _ _ _ _ _) (tok_one _ _ _) (by omega) (by omega) (by have := hx.size; have := hx8.size; simp; omega) ?_); intro v' w9 hown9 hb9))
      go_roundw
      case rel =>
       refine ⟨k + 1, m + 1, m, by omega, by rw [HM.out], by go_num, rfl, by rw [HNK.out, HS1.out]; have := HM.out; simp; omega, ?_, ((hbb.ext hx8).alloc _).below hb9 hglt, ((hx.trans hx8).alloc _).trans' hb9⟩
       rw [HNK.out, HS1.out]
       exact own_tok hown9
      case measure => simp [intOf]; omega
  ·have ek : k = 63 := by omega
   subst ek
   subst hm
   generalize accT t0 l 63 = s at *
   obtain ⟨acc, rn⟩ := s
   simp only at b1 b2 hown HF hla
   by_cases hr : 0 < rn
   ·rw [if_pos hr] at HF
    have hlt3 : decide (la < 63) = true := by simp; omega
    clear hla
    go_wp2_with (at_builtin; go_must (refine wpList_append_sl elt_tok rfl _ _ rfl w5.heap.size _ _ _ rfl (hown.alloc _) _ 1 [.int .i64 _, .int .i64 _, .int .i64 _] rfl (one_sl3 _ _ _ _ _) (tok_one _ _ _) (by omega) (by omega) (by have := hx.size; simp; omega) ?_); intro v' w8 hown8 hb8)
    go_ret2
    rw [HF.out]
    have hown9 := own_tok hown8
    obtain ⟨A, c, rfl, -, -⟩ := own_form hown9
    exact ⟨A, c, rfl, own_lower hown9 hxw.size, hxw.trans ((hx.alloc _).trans' hb8)⟩
   ·rw [if_neg hr] at HF
    have hlt3 : decide (la < 63) = false := by simp; omega
    clear hla
    go_wp2_with fail
    go_ret2
    rw [HF.out]
    obtain ⟨A, c, rfl, -, -⟩ := own_form hown
    exact ⟨A, c, rfl, own_lower hown hxw.size, hxw.trans hx⟩
theorem rtokens_fresh (before : Int) (zs : List Int) (w : World) (hz : zs.length = 64) (hb1 : -2047 ≤ before) (hb2 : before ≤ 2047) (hal : allIn zs (-2047) 2047 = true) (h01 : -2047 ≤ (zto zs).getD 0 0) (h02 : (zto zs).getD 0 0 ≤ 2047) :
 Calls Tryz.prog 105 #[.int .i64 before, .agg (bv zs)] w fun e w' => ∃ A c, e = .returned (.tuple #[.slice A (tokensZ before (zto zs)).length c, .int .i64 0]) ∧ SL w' 3 (.slice A (tokensZ before (zto zs)).length c) (tokensZ before (zto zs)).length (toks (tokensZ before (zto zs))) ∧ (∀ ad, A = some ad → w.heap.size ≤ ad.block) ∧ Ext w w' :=
 (rtokens_own before zs w hz hb1 hb2 hal h01 h02).mono fun _ _ ⟨A, c, e, h1, h2⟩ => ⟨A, c, e, by
   obtain ⟨A', c', e2, h3, h4⟩ := own_form h1
   injection e2 with e3 _ e4
   subst e3 e4
   exact ⟨h3, h4, h2⟩⟩
theorem rtokens_in (before : Int) (zs : List Int) (w : World) (hz : zs.length = 64) (hb1 : -2047 ≤ before) (hb2 : before ≤ 2047) (hal : allIn zs (-2047) 2047 = true) (h01 : -2047 ≤ (zto zs).getD 0 0) (h02 : (zto zs).getD 0 0 ≤ 2047) :
 Calls Tryz.prog 105 #[.int .i64 before, .agg (bv zs)] w fun e w' => ∃ A c, e = .returned (.tuple #[.slice A (tokensZ before (zto zs)).length c, .int .i64 0]) ∧ SL w' 3 (.slice A (tokensZ before (zto zs)).length c) (tokensZ before (zto zs)).length (toks (tokensZ before (zto zs))) ∧ Ext w w' :=
 (rtokens_fresh before zs w hz hb1 hb2 hal h01 h02).mono fun _ _ ⟨A, c, e, h1, _, h2⟩ => ⟨A, c, e, h1, h2⟩
end Go.Proofs.YtkggcjdlpendfaaGreatDoor
