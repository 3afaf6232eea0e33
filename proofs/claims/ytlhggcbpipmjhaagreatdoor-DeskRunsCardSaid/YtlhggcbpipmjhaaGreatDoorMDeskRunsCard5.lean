/- Contracts for the law DeskRunsCard, part 5: what the functions that it reaches answer, for all arguments that the theorems name. -/
import Derived.Test.YtlhggcbpipmjhaaGreatDoorMDeskRunsCard4
import Derived.Test.YtlhggcbpipmjhaaGreatDoorMDeskRunsCard1
namespace Go.Proofs.YtlhggcbpipmjhaaGreatDoor
set_option linter.unusedVariables false
set_option linter.unusedSimpArgs false
open Go.RowKit
set_option maxRecDepth 20000 in
set_option maxHeartbeats 1000000 in
theorem words_any (cs xs : List Int) (sl : Value) (w : World) (hl : cs.length = 16) (hs : SL w 1 sl xs.length (ints xs)) (hal : allIn cs 0 256 = true) (hok : okW cs = true) (hsum : sumL cs 16 = xs.length) (hx256 : xs.length ≤ 256) :
 Calls Tryz.prog 138 #[.agg (tblv cs sl)] w fun e w' => ∃ A c, e = .returned (.slice A xs.length c) ∧ SL w' 3 (.slice A xs.length c) xs.length (toks (zipC (codesW cs 16) xs)) ∧ (∀ ad, A = some ad → w.heap.size ≤ ad.block) ∧ Ext w w' := by
 have hlast := hid_ (fun W g (h : Blk W g 105 (tblv cs sl)) => tblv_last h hl)
 have HRG := hid_ (fun W g (h : Blk W g 105 (tblv cs sl)) => tblv_range h)
 have hcl := hid_ ((ints_len cs).trans hl)
 have HIX := hid_ (fun k (hk : k < cs.length) (h16 : k < 16) => fun W => run_index16 (ints cs).toArray k (.int .i64 cs[k]) h16 (bv_at cs k hk) W)
 have HAL := hid_ (allIn_iff.1 hal)
 have HL := hid_ hl
 have HLEN : Hid ((codesW cs 16).length = xs.length) := hid_ (by have := codesW_len cs (fun z hz => (HAL.out z hz).1) 16 (by omega); omega)
 have HOKS := hid_ (fun k (hk : k < 16) => by simpa using List.all_eq_true.1 hok k (List.mem_range.2 hk))
 have hs' := hs
 obtain ⟨A, c, rfl, hc1, hc2, -, -⟩ := hs'
 generalize tblv cs (.slice A xs.length c) = tv at *
 clear hal hok hsum
 go_enter Tryz.func138, Tryz.ntmps138
 go_wp2_with (first
  | (refine wBox rfl 105 (.tmp 0) rfl tv rfl ?_; intro w1 g hb1 hx1 hg)
  | (refine wpList_load_mid rfl 103 (.tmp 7) rfl g 0 rfl (ints cs) _ (HRG.out _ _ hb1) Tryz.underlying103 rfl (by rw [hcl.out]; exact size16) ?_))
 have hs1 := hs.ext hx1
 have hgw := hb1.lt
 have hsz1 := hx1.size
 go_loopw [3, 4, 9] (fun v nx i wr => ∃ k : Nat, k ≤ 16 ∧ i = .int .i64 (k : Int) ∧ nx = .int .i64 (nextW cs k : Nat) ∧ nextW cs k + 1 ≤ 2 ^ k ∧ OwnV wr w1.heap.size 141 3 v (codesW cs k).length (toks (zipC (codesW cs k) xs)) ∧ Ext w1 wr) (fun _ _ i _ => 16 - (intOf i).toNat)
 case atStart => exact ⟨0, by omega, rfl, rfl, by simp [nextW], by rw [codesW_zero]; exact OwnV.nil _ _ _ _, Ext.refl _⟩
 case round =>
  obtain ⟨k, hk, rfl, rfl, hnx, ⟨B0, d0, rfl, hown⟩, hx⟩ := hrel
  by_cases hlt : k < 16
  ·have hsd : decide ((k : Int) < 16) = true := by simp; omega
   have hkl : k < cs.length := by have := HL.out; omega
   have hix := HIX.out k hkl hlt
   obtain ⟨q1, q2⟩ := HAL.out _ (List.getElem_mem hkl)
   obtain ⟨n, hn⟩ : ∃ n : Nat, cs[k] = (n : Int) := ⟨cs[k].toNat, by omega⟩
   have HNW := hid_ (nextW_succ cs k n hkl hn)
   have HCW := hid_ (codesW_step cs k n hkl hn)
   have HOK := hid_ (HOKS.out k hlt)
   have HMO := hid_ (codesW_mono cs (k + 1) 16 (by omega))
   rw [hn] at hix q1 q2
   have hp : (2 : Nat) ^ k ≤ 65536 := by have := Nat.pow_le_pow_right (n := 2) (by omega) hk; simpa using this
   have HP : Hid (2 ^ (k + 1) = 2 * 2 ^ k) := hid_ (by rw [Nat.pow_succ]; omega)
   have HRS := hid_ (rowC_succ cs k)
   have HR0 : Hid (rowC cs k 0 = []) := hid_ rfl
   have HRL := hid_ (rowC_len cs k)
   have hbound : (codesW cs k).length + n ≤ xs.length := by have h1 := HMO.out; have h2 := HLEN.out; rw [HCW.out, List.length_append, HRL.out] at h1; omega
   generalize nextW cs k = N at *
   generalize (2 : Nat) ^ k = Pw at *
   clear hn hkl
   generalize codesW cs k = C at *
   have HC0 : Hid (zipC (C ++ rowC cs k 0) xs = zipC C xs) := hid_ (by rw [HR0.out, List.append_nil])
   go_wp2_with fail
   go_loopw [3, 4, 16] (fun v nx i wr => ∃ j : Nat, j ≤ n ∧ i = .int .i64 (j : Int) ∧ nx = .int .i64 ((2 * N + j : Nat) : Int) ∧ OwnV wr w1.heap.size 141 3 v (C.length + j) (toks (zipC (C ++ rowC cs k j) xs)) ∧ Ext w1 wr) (fun _ _ i _ => n - (intOf i).toNat)
   case atStart => exact ⟨0, by omega, rfl, vint (by omega), by rw [HC0.out]; exact OwnV.mk hown, hx⟩
   case round =>
    clear hown hx
    obtain ⟨j, hj, rfl, rfl, ⟨B, d, rfl, hown⟩, hx⟩ := hrel
    have hclen : (C ++ rowC cs k j).length = C.length + j := by rw [List.length_append, HRL.out]
    have hzl : (zipC (C ++ rowC cs k j) xs).length = C.length + j := by rw [zipC_len _ _ (by omega), hclen]
    have hcz := hid_ hclen
    have HZL := hid_ hzl
    clear hclen
    by_cases hlj : j < n
    ·have hix2 : C.length + j < xs.length := by omega
     have HZS : Hid (zipC (C ++ rowC cs k (j + 1)) xs = zipC (C ++ rowC cs k j) xs ++ [(xs[C.length + j], ((k + 1 : Nat) : Int), ((2 * N + j : Nat) : Int))]) := hid_ (by
      rw [HRS.out j, ← List.append_assoc, zipC_snoc _ _ _ (by rw [hcz.out]; exact hix2)]
      simp only [hcz.out])
     obtain ⟨ad, u, hA, -, hxk, hcell⟩ := (hs1.ext hx).at1 hix2
     obtain ⟨hkl2, rfl⟩ := ints_at _ _ _ hxk
     subst hA
     have hc16 := hlast.out _ _ (hb1.ext hx)
     generalize xs[C.length + j] = x at *
     generalize zipC (C ++ rowC cs k j) xs = T at *
     generalize hM : C.length + j = M at *
     have hM256 : M < 256 := by omega
     have HM := hid_ hM
     clear hxk hM hzl
     go_wp2_with (at_builtin; go_must (refine wpList_append_sl elt_word rfl _ _ rfl w1.heap.size _ _ _ rfl (hown.alloc _) _ 1 [.int .i64 _, .int .i64 _, .int .i64 _] rfl (one_sl3' _ _ _ _ _) (int3_one _ _ _) (by omega) (by omega) (by have := hx.size; simp; omega) ?_); intro v' w7 hown7 hb7)
     go_roundw
     case rel =>
      refine ⟨j + 1, by omega, by go_num, vint (by omega), ?_, (hx.alloc _).trans' hb7⟩
      rw [HZS.out]
      have := own_tok3 (T := T) (by rw [HZL.out]; exact hown7)
      rw [List.length_append, HZL.out, ← HM.out] at this
      simpa [Nat.add_assoc] using OwnV.mk this
     case measure => simp [intOf]; omega
    ·obtain rfl : j = n := by omega
     clear hzl
     go_wp2_with fail
     go_roundw
     case rel => exact ⟨k + 1, by omega, by go_num, by rw [HNW.out], by rw [HNW.out, HP.out]; have := HOK.out; rw [HNW.out, HP.out] at this; omega, by rw [HCW.out, hcz.out]; exact OwnV.mk hown, hx⟩
     case measure => simp [intOf]; omega
  ·have ek : k = 16 := by omega
   rw [ek] at hown ⊢
   rw [HLEN.out] at hown ⊢
   go_wp2_with fail
   go_ret
   obtain ⟨hsl, hfs⟩ := own_out hown
   exact ⟨B0, d0, rfl, hsl, fun ad h => by have := hfs ad h; omega, hx1.trans hx⟩
set_option maxHeartbeats 400000 in
theorem tWords_no (cs xs : List Int) (sl : Value) (w : World) (hl : cs.length = 16) (hs : SL w 1 sl xs.length (ints xs)) (h : checkZ cs xs ≠ 0) :
 Calls Tryz.prog 108 #[.agg (tblv cs sl)] w fun e w' => e = .returned (.tuple #[.slice none 0 0, .int .i64 (checkZ cs xs)]) ∧ Ext w w' := by
 have HC := hid_ (fun W h => check_any cs xs sl W hl h)
 have hts := hid_ (tblv_size cs sl hl)
 generalize tblv cs sl = tv at *
 generalize checkZ cs xs = z at *
 have hz : (z != 0) = true := by simpa using h
 clear h
 go_enter Tryz.func108, Tryz.ntmps108
 go_wp2_with (first
  | (refine wBox rfl 105 (.tmp 0) rfl tv rfl ?_; intro w1 g hb1 hx1 hg; have hs1 := hs.ext hx1)
  | (refine wLdB rfl 105 (.tmp 1) rfl _ rfl hb1 _ Tryz.underlying105 rfl 17 sizeTbl hts.out ?_)
  | (go_at_call 137; (with_reducible refine (HC.out _ hs1).mono ?_); rintro e w2 ⟨rfl, hx2⟩))
 go_ret2
 exact ⟨rfl, hx1.trans hx2⟩
theorem checkZ_zero {cs xs : List Int} (h : checkZ cs xs = 0) : allIn cs 0 256 = true ∧ sumL cs 16 = xs.length ∧ xs.length ≤ 256 ∧ okW cs = true ∧ allIn xs 0 255 = true ∧ xs.Nodup := by
 unfold checkZ at h
 split at h
 ·next h1 =>
  obtain ⟨q1, q2, q3⟩ := totOK_iff.1 h1
  split at h
  ·next h2 =>
   split at h
   ·next h3 =>
    simp only [Bool.and_eq_true, decide_eq_true_eq] at h3
    exact ⟨q1, q3, by omega, h3.2, h2, h3.1⟩
   ·cases h
  ·cases h
 ·cases h
set_option maxHeartbeats 400000 in
theorem tWords_yes (cs xs : List Int) (sl : Value) (w : World) (hl : cs.length = 16) (hs : SL w 1 sl xs.length (ints xs)) (h : checkZ cs xs = 0) :
 Calls Tryz.prog 108 #[.agg (tblv cs sl)] w fun e w' => ∃ A c, e = .returned (.tuple #[.slice A xs.length c, .int .i64 0]) ∧ SL w' 3 (.slice A xs.length c) xs.length (toks (zipC (codesW cs 16) xs)) ∧ (∀ ad, A = some ad → w.heap.size ≤ ad.block) ∧ Ext w w' := by
 obtain ⟨q1, q2, q3, q4, -, -⟩ := checkZ_zero h
 have HC := hid_ (fun W h => check_any cs xs sl W hl h)
 rw [h] at HC
 have HW := hid_ (fun W h => words_any cs xs sl W hl h q1 q4 q2 q3)
 have hts := hid_ (tblv_size cs sl hl)
 generalize tblv cs sl = tv at *
 generalize zipC (codesW cs 16) xs = Z at *
 clear h q1 q2 q3 q4
 go_enter Tryz.func108, Tryz.ntmps108
 go_wp2_with (first
  | (refine wBox rfl 105 (.tmp 0) rfl tv rfl ?_; intro w1 g hb1 hx1 hg; have hs1 := hs.ext hx1)
  | (refine wLdB rfl 105 (.tmp 1) rfl _ rfl hb1 _ Tryz.underlying105 rfl 17 sizeTbl hts.out ?_)
  | (go_at_call 137; (with_reducible refine (HC.out _ hs1).mono ?_); rintro e w2 ⟨rfl, hx2⟩; have hb2 := hb1.ext hx2; have hs2 := hs1.ext hx2)
  | (refine wLdB rfl 105 (.tmp 1) rfl _ rfl hb2 _ Tryz.underlying105 rfl 17 sizeTbl hts.out ?_)
  | (go_at_call 138; (with_reducible refine (HW.out _ hs2).mono ?_); rintro e w3 ⟨A, c, rfl, hs3, hf3, hx3⟩))
 go_ret2
 have := hx1.size
 have := hx2.size
 exact ⟨A, c, rfl, hs3, fun ad h => by have := hf3 ad h; omega, (hx1.trans hx2).trans hx3⟩
theorem zipC_at (C : List (Nat × Nat)) (xs : List Int) (k : Nat) (h1 : k < C.length) (h2 : k < xs.length) (h : k < (zipC C xs).length) : (zipC C xs)[k] = (xs[k], ((C[k]).1 : Int), ((C[k]).2 : Int)) := by
 simp [zipC]
def findT (T : List Tok) (s : Int) : Option Tok := T.find? (fun t => t.1 == s)
def bitsT (T : List Tok) (s : Int) : List Bool := match findT T s with | some t => digs t.2.2.toNat t.2.1.toNat | none => []
def FitT (T : List Tok) : Prop := ∀ s t, findT T s = some t → ∃ long code : Nat, t = (s, (long : Int), (code : Int)) ∧ 1 ≤ long ∧ long ≤ 16 ∧ code < 2 ^ long
theorem fitT_of (cs xs : List Int) (hl : cs.length = 16) (h : checkZ cs xs = 0) : FitT (zipC (codesW cs 16) xs) := by
 obtain ⟨q1, q2, q3, q4, q5, q6⟩ := checkZ_zero h
 have hfit := codesW_fit cs q4 hl 16 (by omega)
 intro s t ht
 have hm := List.mem_of_find?_eq_some ht
 have hs := List.find?_some ht
 simp only [beq_iff_eq] at hs
 unfold zipC at hm
 obtain ⟨i, hi, rfl⟩ := List.mem_iff_getElem.1 hm
 simp only [List.getElem_zipWith] at hs ⊢
 simp only [List.length_zipWith] at hi
 obtain ⟨f1, f2, f3⟩ := hfit _ (List.getElem_mem (show i < (codesW cs 16).length by omega))
 exact ⟨_, _, by rw [hs], f1, f2, by omega⟩
theorem bitsT_len {T : List Tok} (hf : FitT T) (s : Int) : (bitsT T s).length ≤ 16 := by
 unfold bitsT
 cases h : findT T s with
 | none => simp
 | some t =>
   obtain ⟨long, code, rfl, h1, h2, h3⟩ := hf s t h
   simp [digs_len]
   omega
structure Upd (S : Nat → Prop) (w w' : World) : Prop where
 os : w'.os = w.os
 tape : w'.tape = w.tape
 output : w'.output = w.output
 size : w.heap.size ≤ w'.heap.size
 block : ∀ b, b < w.heap.size → ¬ S b → w'.heap[b]? = w.heap[b]?
theorem Upd.refl (S : Nat → Prop) (w : World) : Upd S w w := ⟨rfl, rfl, rfl, Nat.le_refl _, fun _ _ _ => rfl⟩
theorem Upd.trans {S S' : Nat → Prop} {a b c : World} (h : Upd S a b) (k : Upd S' b c) (hS : ∀ x, S' x → S x ∨ a.heap.size ≤ x) : Upd S a c :=
 ⟨k.os.trans h.os, k.tape.trans h.tape, k.output.trans h.output, Nat.le_trans h.size k.size, fun x hx hn => by
  have h1 := h.size
  rw [k.block x (by omega) (fun h2 => (hS x h2).elim hn (by omega)), h.block x hx hn]⟩
theorem Upd.of_ext {S : Nat → Prop} {a b : World} (h : Ext a b) : Upd S a b := ⟨h.os, h.tape, h.output, h.size, fun x hx _ => h.block x hx⟩
theorem Upd.below {S : Nat → Prop} {a b : World} {B : Nat} (h : Upd S a b) (hS : ∀ x, S x → B ≤ x) (hB : B ≤ a.heap.size) : Below B a b :=
 ⟨h.os, h.tape, h.output, h.size, fun x hx => h.block x (by omega) (fun h2 => by have := hS x h2; omega)⟩
theorem Upd.setCell {S : Nat → Prop} {a b : World} (h : Upd S a b) {p : Addr} (hp : S p.block) (u : Value) : Upd S a (b.setCell p u) :=
 ⟨h.os, h.tape, h.output, by simpa [World.setCell] using h.size, fun x hx hn => (Below.heap_setCell b p u x (fun e => hn (e ▸ hp))).trans (h.block x hx hn)⟩
theorem Upd.drew {S : Nat → Prop} {a b : World} (h : Upd S a b) : Upd S a b.drew := ⟨h.os, h.tape, h.output, h.size, h.block⟩
theorem Upd.grown {S : Nat → Prop} {a w w' : World} (h : Upd S a w) {row : Option Nat} (hg : w.grownBy w' row) (hr : ∀ b, row = some b → S b ∨ a.heap.size ≤ b) : Upd S a w' :=
 ⟨hg.os.trans h.os, hg.tape.trans h.tape, hg.output.trans h.output, Nat.le_trans h.size hg.size, fun x hx hn => by
  have h1 := h.size
  rw [hg.block x (by omega) (fun h2 => (hr x h2.symm).elim hn (by omega)), h.block x hx hn]⟩
theorem SL.upd {S : Nat → Prop} {w w' : World} {size n c : Nat} {A : Option Addr} {xs : List Value} (h : SL w size (.slice A n c) n xs) (hu : Upd S w w') (hS : ∀ ad, A = some ad → ¬ S ad.block) : SL w' size (.slice A n c) n xs := by
 obtain ⟨A', c', e, h1, h1', h2, h3⟩ := h
 injection e with e1 e2 e3
 subst e1 e3
 refine ⟨A, c, rfl, h1, h1', h2, fun hn => ?_⟩
 obtain ⟨ad, ea, hlt, hc⟩ := h3 hn
 refine ⟨ad, ea, Nat.lt_of_lt_of_le hlt hu.size, fun j u hj => ?_⟩
 rw [← hc j u hj]
 unfold World.cell?
 rw [block_of_add, hu.block _ hlt (hS ad ea)]
theorem Upd.blk {S : Nat → Prop} {w w' : World} {g : Nat} {T : TypeId} {cs : Array Value} (hu : Upd S w w') (h : Blk w g T cs) (hS : ¬ S g) : Blk w' g T cs := (hu.block g h.lt hS).trans h
theorem Upd.ext {S : Nat → Prop} {a w w' : World} (hu : Upd S w w') (h : Ext a w) (hS : ∀ x, S x → a.heap.size ≤ x) : Ext a w' :=
 ⟨hu.os.trans h.os, hu.tape.trans h.tape, hu.output.trans h.output, Nat.le_trans h.size hu.size, fun x hx => by
  have := h.size
  rw [hu.block x (by omega) (fun h2 => by have := hS x h2; omega), h.block x hx]⟩
theorem SL.below {w w' : World} {size n B : Nat} {v : Value} {xs : List Value} (h : SL w size v n xs) (hb : Below B w w') (hB : w.heap.size ≤ B) : SL w' size v n xs := by
 obtain ⟨A, c, rfl, h1, h1', h2, h3⟩ := h
 refine ⟨A, c, rfl, h1, h1', h2, fun hn => ?_⟩
 obtain ⟨ad, e, hlt, hc⟩ := h3 hn
 exact ⟨ad, e, Nat.lt_of_lt_of_le hlt hb.size, fun j u hu => (hb.cell (by rw [block_of_add]; omega)).trans (hc j u hu)⟩
def Enters (P : Program) (f : FuncId) : Prop := ∀ (args : Array Value) (w : World), (callFunc f args).run P w = .ok (.enter f args) w
theorem enters_of {P : Program} {f : FuncId} {fn : Func} {c : Code} (hf : P.funcs[f]? = some fn) (hname : (fn.name == "runtime.NumGoroutine") = false) (hb : fn.body = some c) : Enters P f := by
 intro args w
 have hn : ¬ fn.name = "runtime.NumGoroutine" := by simpa using hname
 simp [callFunc, hf, hb, hn]
def idxOf (p : Int → Bool) (zs : List Int) : Int := match zs.findIdx? p with | some k => k | none => -1
theorem indexFunc_any (g : Nat) (cap : Array Value) (p : Int → Bool) (eg : Enters Tryz.prog g) (v : Value) (zs : List Int) (w : World) (hs : SL w 1 v zs.length (ints zs))
 (hp : ∀ z ∈ zs, Calls Tryz.prog g (#[.int .i64 z] ++ cap) w fun e w' => e = .returned (.bool (p z)) ∧ w = w') :
 Calls Tryz.prog 129 #[v, .func (.func g) #[] cap] w fun e w' => e = .returned (.int .i64 (idxOf p zs)) ∧ w = w' := by
 have hs' := hs
 obtain ⟨A, c, rfl, hc1, hc2, -, -⟩ := hs'
 go_enter Tryz.func129, Tryz.ntmps129
 go_wp2_with fail
 go_loop [8] (fun i => ∃ k : Nat, k ≤ zs.length ∧ i = .int .i64 k ∧ ∀ z ∈ zs.take k, p z = false) (fun i => zs.length - (intOf i).toNat)
 case atStart => exact ⟨0, by omega, rfl, by simp⟩
 case round =>
  obtain ⟨k, hk, rfl, ht⟩ := hrel
  have HT : Hid (∀ z ∈ zs.take k, p z = false) := ht
  clear ht
  by_cases hlt : k < zs.length
  ·obtain ⟨ad, u, rfl, -, hx, hcell⟩ := hs.at1 hlt
   obtain ⟨_, rfl⟩ := ints_at _ _ _ hx
   clear hx
   have hcall := hp zs[k] (List.getElem_mem _)
   have HC : Hid (Calls Tryz.prog g (#[.int .i64 zs[k]] ++ cap) w fun e w' => e = .returned (.bool (p zs[k])) ∧ w = w') := hcall
   have HP : Hid (∀ z ∈ zs, Calls Tryz.prog g (#[.int .i64 z] ++ cap) w fun e w' => e = .returned (.bool (p z)) ∧ w = w') := hp
   clear hcall hp
   unfold Enters at eg
   by_cases hz : p zs[k] = true
   ·have hfin : idxOf p zs = k := by
     unfold idxOf
     have : zs.findIdx? p = some k := by
      rw [List.findIdx?_eq_some_iff_getElem]
      refine ⟨hlt, hz, fun j hj => ?_⟩
      have := HT.out zs[j] (by
       rw [List.mem_take_iff_getElem]
       exact ⟨j, by omega, rfl⟩)
      simp [this]
     rw [this]
    have HF := hid_ hfin
    clear hfin
    go_wp2_with fail
    refine HC.out.mono ?_
    rintro e w' ⟨rfl, rfl⟩
    rw [hz]; clear hz
    go_wp2
    go_ret
    exact ⟨by rw [HF.out]; rfl, rfl⟩
   ·have hz' : p zs[k] = false := by simpa using hz
    have HZ := hid_ hz'
    clear hz
    go_wp2_with fail
    refine HC.out.mono ?_
    rintro e w' ⟨rfl, rfl⟩
    rw [hz']; clear hz'
    go_wp2
    go_round
    case rel =>
     refine ⟨k + 1, by omega, by go_num, fun z hz => ?_⟩
     rw [List.take_succ_eq_append_getElem hlt] at hz
     rcases List.mem_append.1 hz with h1 | h1
     ·exact HT.out z h1
     ·simp at h1; subst h1; exact HZ.out
    case measure => simp [intOf]; omega
  ·have hfin : idxOf p zs = -1 := by
    unfold idxOf
    have : zs.findIdx? p = none := by
     rw [List.findIdx?_eq_none_iff]
     have h := HT.out
     rwa [List.take_of_length_le (by omega)] at h
    rw [this]
   have HF := hid_ hfin
   clear hfin
   go_wp2
   go_ret
   exact ⟨by rw [HF.out]; rfl, rfl⟩
theorem idxOf_ge (p : Int → Bool) (zs : List Int) : decide (idxOf p zs ≥ 0) = zs.any p := by
 unfold idxOf
 cases h : zs.findIdx? p with
 | none =>
   have : zs.any p = false := by rw [List.any_eq_false]; intro x hx; have := List.findIdx?_eq_none_iff.1 h x hx; simp [this]
   simp [this]
 | some k =>
   have : zs.any p = true := by
    rw [List.any_eq_true]
    obtain ⟨hk, hp, -⟩ := List.findIdx?_eq_some_iff_getElem.1 h
    exact ⟨_, List.getElem_mem hk, hp⟩
   simp [this]
theorem containsFunc_any (g : Nat) (cap : Array Value) (p : Int → Bool) (eg : Enters Tryz.prog g) (v : Value) (zs : List Int) (w : World) (hs : SL w 1 v zs.length (ints zs))
 (hp : ∀ z ∈ zs, Calls Tryz.prog g (#[.int .i64 z] ++ cap) w fun e w' => e = .returned (.bool (p z)) ∧ w = w') :
 Calls Tryz.prog 96 #[v, .func (.func g) #[] cap] w fun e w' => e = .returned (.bool (zs.any p)) ∧ w = w' := by
 have HP := hid_ hp
 have HG := hid_ eg
 clear hp eg
 go_enter Tryz.func96, Tryz.ntmps96
 go_wp2_with (go_at_call 129; refine (indexFunc_any g cap p HG.out v zs _ hs HP.out).mono ?_; rintro e w' ⟨rfl, rfl⟩)
 go_ret
 exact ⟨by rw [← idxOf_ge]; rfl, rfl⟩
section
open Go.RowKit Go.Maps
def bcheckZ (counts : List Int) : Int := if 256 < counts.length then 2 else if allIn counts 0 9999 then 0 else 1
theorem bcheck1_any (z : Int) (w : World) : Calls Tryz.prog 133 (#[.int .i64 z] ++ #[]) w fun e w' => e = .returned (.bool (!inB z 0 9999)) ∧ w = w' := by
 by_cases h : z < 0
 ·have h' : decide (z < 0) = true := by simpa using h
  have e : inB z 0 9999 = false := inB_not.2 (by omega)
  rw [e]; clear e
  go_enter Tryz.func133, Tryz.ntmps133
  go_wp2_with fail
  go_ret
  exact ⟨rfl, rfl⟩
 ·have h' : decide (z < 0) = false := by simpa using h
  have e : (!inB z 0 9999) = decide (9999 < z) := by rw [Bool.eq_iff_iff]; simp [inB]; omega
  rw [e]; clear e
  go_enter Tryz.func133, Tryz.ntmps133
  go_wp2_with fail
  go_ret
  exact ⟨rfl, rfl⟩
theorem enters_bcheck1 : Enters Tryz.prog 133 := enters_of Tryz.func133 (by kernel_rfl) rfl
set_option maxHeartbeats 400000 in
theorem bcheck_any (counts : List Int) (v : Value) (w : World) (hv : SL w 1 v counts.length (ints counts)) :
 Calls Tryz.prog 103 #[v] w fun e w' => e = .returned (.int .i64 (bcheckZ counts)) ∧ w = w' := by
 have HCF := hid_ (fun W (hs : SL W 1 v counts.length (ints counts)) => containsFunc_any 133 #[] (fun z => !inB z 0 9999) enters_bcheck1 v counts W hs (fun z _ => bcheck1_any z W))
 simp only [inB_any] at HCF
 have hv' := hv
 obtain ⟨A, c, rfl, hc1, hc2, -, -⟩ := hv'
 unfold bcheckZ
 by_cases h : 256 < counts.length
 ·rw [if_pos h]
  go_enter Tryz.func103, Tryz.ntmps103
  go_wp2_with fail
  go_ret
  exact ⟨rfl, rfl⟩
 ·rw [if_neg h]
  cases ha : allIn counts 0 9999 with
  | true =>
    rw [ha] at HCF
    clear ha
    go_enter Tryz.func103, Tryz.ntmps103
    go_wp2_with (go_at_call 96; (with_reducible refine (HCF.out _ hv).mono ?_); rintro e w' ⟨rfl, rfl⟩)
    go_ret
    exact ⟨rfl, rfl⟩
  | false =>
    rw [ha] at HCF
    clear ha
    go_enter Tryz.func103, Tryz.ntmps103
    go_wp2_with (go_at_call 96; (with_reducible refine (HCF.out _ hv).mono ?_); rintro e w' ⟨rfl, rfl⟩)
    go_ret
    exact ⟨rfl, rfl⟩
def lenT (T : List Tok) (s : Int) : Nat := (bitsT T s).length
def costL (T : List Tok) (counts : List Int) : Nat → Int
 | 0 => 0
 | k + 1 => costL T counts k + counts.getD k 0 * (lenT T (k : Int) : Int)
theorem costL_succ (T : List Tok) (counts : List Int) (k : Nat) (h : k < counts.length) : costL T counts (k + 1) = costL T counts k + counts[k] * (lenT T (k : Int) : Int) := by
 show costL T counts k + counts.getD k 0 * (lenT T (k : Int) : Int) = _
 rw [show counts.getD k 0 = counts[k] by simp [h]]
def hasAll (T : List Tok) (counts : List Int) : Bool := (List.range counts.length).all fun k => decide (counts.getD k 0 ≤ 0) || (findT T (k : Int)).isSome
def costZ (cs xs counts : List Int) : Int × Int :=
 if checkZ cs xs = 0 then (if bcheckZ counts = 0 then (if hasAll (zipC (codesW cs 16) xs) counts then (costL (zipC (codesW cs 16) xs) counts counts.length, 0) else (0, 5)) else (0, bcheckZ counts)) else (0, checkZ cs xs)
theorem bcheck_zero {counts : List Int} (h : bcheckZ counts = 0) : counts.length ≤ 256 ∧ allIn counts 0 9999 = true := by
 unfold bcheckZ at h
 split at h
 ·cases h
 ·split at h
  ·next h1 h2 => exact ⟨by omega, h2⟩
  ·cases h
theorem hasAll_no {T : List Tok} {counts : List Int} {k : Nat} (hk : k < counts.length) (h : 0 < counts[k]) (hf : findT T (k : Int) = none) : hasAll T counts = false := by
 rw [← Bool.not_eq_true]
 intro h2
 have := List.all_eq_true.1 h2 k (List.mem_range.2 hk)
 simp [hf, hk] at this
 omega
theorem hasAll_yes {T : List Tok} {counts : List Int} (h : ∀ k, (hk : k < counts.length) → counts[k] ≤ 0 ∨ (findT T (k : Int)).isSome = true) : hasAll T counts = true := by
 refine List.all_eq_true.2 fun k hk => ?_
 have hk' := List.mem_range.1 hk
 rcases h k hk' with h1 | h1
 ·simp [hk', h1]
 ·simp [h1]
theorem costL_bd {T : List Tok} (hf : FitT T) {counts : List Int} (ha : allIn counts 0 9999 = true) : ∀ k, k ≤ counts.length → 0 ≤ costL T counts k ∧ costL T counts k ≤ 159984 * k := by
 intro k
 induction k with
 | zero => intro _; simp [costL]
 | succ k ih =>
   intro hk
   obtain ⟨a, b⟩ := ih (by omega)
   have h1 := allIn_iff.1 ha _ (List.getElem_mem (show k < counts.length by omega))
   have h2 := bitsT_len hf (k : Int)
   have e : counts.getD k 0 = counts[k]'(by omega) := by simp [show k < counts.length by omega]
   show 0 ≤ costL T counts k + counts.getD k 0 * (lenT T (k : Int) : Int) ∧ costL T counts k + counts.getD k 0 * (lenT T (k : Int) : Int) ≤ _
   rw [e]
   unfold lenT
   obtain ⟨z, hz⟩ : ∃ z : Nat, counts[k]'(by omega) = (z : Int) := ⟨(counts[k]'(by omega)).toNat, by omega⟩
   rw [hz] at h1 ⊢
   generalize (bitsT T (k : Int)).length = n at *
   have : z * n ≤ 9999 * 16 := Nat.mul_le_mul (by omega) h2
   have h5 : ((z * n : Nat) : Int) = (z : Int) * (n : Int) := by push_cast; rfl
   constructor
   ·rw [← h5]; omega
   ·rw [← h5]; push_cast; omega
def longF (T : List Tok) (s : Int) : Option Value := (T.find? (fun t => t.1 == s)).map (fun t => Value.int .i64 t.2.1)
theorem longF_snoc_same (T : List Tok) (t : Tok) (h : ∀ u ∈ T, u.1 ≠ t.1) : longF (T ++ [t]) t.1 = some (.int .i64 t.2.1) := by
 have h1 : T.find? (fun u => u.1 == t.1) = none := by
  rw [List.find?_eq_none]
  intro u hu
  simpa using h u hu
 unfold longF
 rw [List.find?_append, h1]
 simp
theorem longF_snoc_other (T : List Tok) (t : Tok) (s : Int) (h : s ≠ t.1) : longF (T ++ [t]) s = longF T s := by
 have h1 : [t].find? (fun u => u.1 == s) = none := by
  rw [List.find?_eq_none]
  intro u hu
  have : u = t := by simpa using hu
  subst this
  simpa using fun h2 => h h2.symm
 unfold longF
 rw [List.find?_append, h1, Option.or_none]
theorem longF_look {T : List Tok} (hf : FitT T) (s : Int) : (longF T s).getD (.int .i64 0) = .int .i64 (lenT T s : Nat) := by
 unfold longF lenT bitsT
 cases h : findT T s with
 | none => unfold findT at h; rw [h]; rfl
 | some t =>
   obtain ⟨long, code, rfl, h1, h2, h3⟩ := hf s t h
   unfold findT at h
   rw [h]
   simp [digs_len]
theorem lenT_zero {T : List Tok} (hf : FitT T) (s : Int) : lenT T s = 0 ↔ findT T s = none := by
 unfold lenT bitsT
 cases h : findT T s with
 | none => simp
 | some t =>
   obtain ⟨long, code, rfl, h1, h2, h3⟩ := hf s t h
   simp [digs_len]
   omega
theorem keyed_int' : Keyed Tryz.prog 3 := int_keyed Tryz.underlying3
theorem zero_int (w : World) : (zeroValue 3).run Tryz.prog w = .ok (.int .i64 0) w := by kernel_rfl
theorem zipC_apart1 (cs xs : List Int) (hxs : xs.Nodup) (hl : (codesW cs 16).length = xs.length) (k : Nat) (hk : k < (zipC (codesW cs 16) xs).length) :
 ∀ u ∈ (zipC (codesW cs 16) xs).take k, u.1 ≠ ((zipC (codesW cs 16) xs)[k]).1 := by
 have hz : (zipC (codesW cs 16) xs).length = xs.length := by rw [zipC_len _ _ (by omega), hl]
 generalize codesW cs 16 = C at *
 intro u hu
 obtain ⟨j, hj, rfl⟩ := List.mem_iff_getElem.1 hu
 simp at hj
 rw [List.getElem_take]
 rw [zipC_at C xs j (by omega) (by omega), zipC_at C xs k (by omega) (by omega)]
 intro e
 have := (List.getElem_inj hxs).1 e
 omega
set_option maxRecDepth 20000 in
set_option maxHeartbeats 1000000 in
theorem cost_bad (cs xs counts : List Int) (sl sv : Value) (w : World) (hl : cs.length = 16) (hs : SL w 1 sl xs.length (ints xs)) (hv : SL w 1 sv counts.length (ints counts)) (h : checkZ cs xs ≠ 0 ∨ (checkZ cs xs = 0 ∧ bcheckZ counts ≠ 0)) :
 Calls Tryz.prog 80 #[.agg (tblv cs sl), sv] w fun e w' => e = .returned (.tuple #[.int .i64 (costZ cs xs counts).1, .int .i64 (costZ cs xs counts).2]) ∧ Ext w w' := by
 have hts := hid_ (tblv_size cs sl hl)
 rcases h with h | ⟨h, h2⟩
 ·have HW := hid_ (fun W h' => tWords_no cs xs sl W hl h' h)
  have HE : Hid (costZ cs xs counts = (0, checkZ cs xs)) := hid_ (by unfold costZ; rw [if_neg h])
  rw [HE.out]
  generalize tblv cs sl = tv at *
  generalize checkZ cs xs = z at *
  have hz : (z == 0) = false := by simpa using h
  have hz2 : (z != 0) = true := by simpa using h
  clear h
  go_enter Tryz.func80, Tryz.ntmps80
  go_wp2_with (first
   | (refine wBox rfl 105 (.tmp 0) rfl tv rfl ?_; intro w1 g hb1 hx1 hg; have hs1 := hs.ext hx1)
   | (refine wLdB rfl 105 (.tmp 2) rfl _ rfl hb1 _ Tryz.underlying105 rfl 17 sizeTbl hts.out ?_)
   | (go_at_call 108; (with_reducible refine (HW.out _ hs1).mono ?_); rintro e w2 ⟨rfl, hx2⟩))
  go_ret2
  exact ⟨rfl, hx1.trans hx2⟩
 ·have HW := hid_ (fun W h' => tWords_yes cs xs sl W hl h' h)
  have HB := hid_ (fun W h' => bcheck_any counts sv W h')
  have HE : Hid (costZ cs xs counts = (0, bcheckZ counts)) := hid_ (by unfold costZ; rw [if_pos h, if_neg h2])
  rw [HE.out]
  generalize tblv cs sl = tv at *
  generalize bcheckZ counts = z at *
  have hz2 : (z != 0) = true := by simpa using h2
  clear h h2
  go_enter Tryz.func80, Tryz.ntmps80
  go_wp2_with (first
   | (refine wBox rfl 105 (.tmp 0) rfl tv rfl ?_; intro w1 g hb1 hx1 hg; have hs1 := hs.ext hx1)
   | (refine wLdB rfl 105 (.tmp 2) rfl _ rfl hb1 _ Tryz.underlying105 rfl 17 sizeTbl hts.out ?_)
   | (go_at_call 108; (with_reducible refine (HW.out _ hs1).mono ?_); rintro e w2 ⟨B, d, rfl, hs2, hf2, hx2⟩; have hv2 := (hv.ext hx1).ext hx2)
   | (go_at_call 103; (with_reducible refine (HB.out _ hv2).mono ?_); rintro e w3 ⟨rfl, rfl⟩))
  go_ret2
  exact ⟨rfl, hx1.trans hx2⟩
set_option maxRecDepth 20000 in
set_option maxHeartbeats 1000000 in
theorem cost_good (cs xs counts : List Int) (sl sv : Value) (w : World) (hl : cs.length = 16) (hs : SL w 1 sl xs.length (ints xs)) (hv : SL w 1 sv counts.length (ints counts)) (h : checkZ cs xs = 0) (h2 : bcheckZ counts = 0) :
 Calls Tryz.prog 80 #[.agg (tblv cs sl), sv] w fun e w' => e = .returned (.tuple #[.int .i64 (costZ cs xs counts).1, .int .i64 (costZ cs xs counts).2]) ∧ Ext w w' := by
 have hts := hid_ (tblv_size cs sl hl)
 have HW := hid_ (fun W h' => tWords_yes cs xs sl W hl h' h)
 have HB := hid_ (fun W h' => bcheck_any counts sv W h')
 rw [h2] at HB
 obtain ⟨q1, q2, q3, q4, q5, q6⟩ := checkZ_zero h
 obtain ⟨b1, b2⟩ := bcheck_zero h2
 have hlen : (codesW cs 16).length = xs.length := by have := codesW_len cs (fun z hz => (allIn_iff.1 q1 z hz).1) 16 (by omega); omega
 have HZL : Hid ((zipC (codesW cs 16) xs).length = xs.length) := hid_ (by rw [zipC_len _ _ (by omega), hlen])
 have HAP := hid_ (zipC_apart1 cs xs q6 hlen)
 have HF := hid_ (fitT_of cs xs hl h)
 have HAT := hid_ (fun k (h1 : k < (codesW cs 16).length) (h2 : k < xs.length) hk => zipC_at (codesW cs 16) xs k h1 h2 hk)
 have HIN := hid_ (allIn_iff.1 q5)
 have HBD : Hid (∀ k (hk : k < (zipC (codesW cs 16) xs).length), 0 ≤ ((zipC (codesW cs 16) xs)[k]).1 ∧ ((zipC (codesW cs 16) xs)[k]).1 ≤ 255) := hid_ (fun k hk => by
  have := HZL.out
  have hk1 : k < (codesW cs 16).length := by omega
  have hk2 : k < xs.length := by omega
  rw [HAT.out k hk1 hk2 hk]
  exact HIN.out _ (List.getElem_mem hk2))
 have HE : Hid (costZ cs xs counts = if hasAll (zipC (codesW cs 16) xs) counts then (costL (zipC (codesW cs 16) xs) counts counts.length, 0) else (0, 5)) := hid_ (by unfold costZ; rw [if_pos h, if_pos h2])
 have HCB := hid_ (costL_bd HF.out b2)
 have HALL := hid_ (allIn_iff.1 b2)
 have hmm := @run_makeMap Tryz.prog
 generalize costZ cs xs counts = ez at *
 generalize tblv cs sl = tv at *
 generalize zipC (codesW cs 16) xs = T at *
 clear h h2 q1 q2 q4 q5 q6 b2 hlen HAT HIN
 have hv' := hv
 obtain ⟨Av, cv, rfl, hcv1, hcv2, -, -⟩ := hv'
 go_enter Tryz.func80, Tryz.ntmps80
 go_wp2_with (first
  | (refine wBox rfl 105 (.tmp 0) rfl tv rfl ?_; intro w1 g hb1 hx1 hg; have hs1 := hs.ext hx1)
  | (refine wLdB rfl 105 (.tmp 2) rfl _ rfl hb1 _ Tryz.underlying105 rfl 17 sizeTbl hts.out ?_)
  | (go_at_call 108; (with_reducible refine (HW.out _ hs1).mono ?_); rintro e w2 ⟨B, d, rfl, hs2, hf2, hx2⟩; have hv2 := (hv.ext hx1).ext hx2)
  | (go_at_call 103; (with_reducible refine (HB.out _ hv2).mono ?_); rintro e w3 ⟨rfl, rfl⟩))
 have hm0 : MapI Tryz.prog 3 (w2.alloc (.map #[] 0)) w2.heap.size 0 (longF []) := MapG.made w2
 have hxw := (hx1.trans hx2).alloc (.map #[] 0)
 have hzw := (hx1.trans hx2).size
 have hE25 : Below w2.heap.size w2 (w2.alloc (.map #[] 0)) := (Ext.refl w2).alloc _
 have hd1 : xs.length ≤ d ∧ d ≤ 9223372036854775807 := by obtain ⟨A', c', e, h1, h2, -⟩ := hs2; injection e with e1 e2 e3; subst e3; exact ⟨h1, h2⟩
 obtain ⟨hd1, hd2⟩ := hd1
 generalize hM : w2.heap.size = M at *
 have hw2z : w2.heap.size ≤ M := by omega
 generalize hw5 : w2.alloc (.map #[] 0) = w5 at *
 have hw5z : M < w5.heap.size := by rw [← hw5, World.size_alloc]; omega
 clear hw5 hM hmm hs1 hb1 hx1 hx2 hs hv
 go_loopw [29] (fun i wr => ∃ k : Nat, k ≤ xs.length ∧ i = .int .i64 (k : Int) ∧ MapI Tryz.prog 3 wr M k (longF (T.take k)) ∧ Upd (fun b => b = M) w5 wr) (fun i _ => xs.length - (intOf i).toNat)
 case atStart => exact ⟨0, by omega, rfl, hm0, Upd.refl _ _⟩
 case round =>
  clear hm0
  obtain ⟨k, hk, rfl, hm, hu⟩ := hrel
  by_cases hlt : k < xs.length
  ·have hkT : k < T.length := by have := HZL.out; omega
   have hslr := hs2.below (hE25.trans (hu.below (fun x hx => by omega) (by omega))) hw2z
   obtain ⟨ad, rfl, hbl, h1, h2, h3⟩ := hslr.tok hlt HZL.out hkT
   have a1 := HAP.out k hkT
   obtain ⟨b3, b4⟩ := HBD.out k hkT
   have HS1 := hid_ (longF_snoc_same (T.take k) T[k] a1)
   have HS2 := hid_ (fun s => longF_snoc_other (T.take k) T[k] s)
   have HTS : Hid (T.take (k + 1) = T.take k ++ [T[k]]) := hid_ (List.take_succ_eq_append_getElem hkT)
   generalize T[k] = t at *
   obtain ⟨t1, t2, t3⟩ := t
   simp only at b3 b4 h1 h2 h3
   have hkey1 := hid_ (keyOf_i64 (P := Tryz.prog) Tryz.underlying3 (a := t1) (by omega) (by omega))
   have hma := hm.alloc (.cells #[.int .i64 t1, .int .i64 t2, .int .i64 t3] 141)
   have hua := hu.trans (Upd.of_ext (S := fun _ => False) ((Ext.refl wr).alloc (.cells #[.int .i64 t1, .int .i64 t2, .int .i64 t3] 141))) (fun x hx => hx.elim)
   clear a1 hm hu hslr
   go_wp2_with (at_mapUpdate; refine wpList_upd_g (by rfl) _ _ _ 136 3 rfl keyed_int' Tryz.underlying136 rfl hma (by omega) _ rfl _ rfl t1 hkey1.out (longF (T.take k ++ [(t1, t2, t3)])) HS1.out (fun j _ hj => HS2.out j (fun e => hj (by rw [e]))) (fun j _ hj => by injection hj) ?_; intro w7 hm7 hg7)
   go_roundw
   case rel => exact ⟨k + 1, by omega, by go_num, by rw [HTS.out]; exact hm7, hua.grown hg7 (fun b hb => .inl (by injection hb with hb; exact hb.symm))⟩
   case measure => simp [intOf]; omega
  ·have ek : k = xs.length := by omega
   have HFT : Hid (T.take k = T) := hid_ (List.take_of_length_le (by have := HZL.out; omega))
   rw [HFT.out] at hm
   have hvr : SL wr 1 (.slice Av counts.length cv) counts.length (ints counts) := hv2.below (hE25.trans (hu.below (fun x hx => by omega) (by omega))) hw2z
   have hxr := hu.ext hxw (by omega)
   have HLK := hid_ (longF_look HF.out)
   have HLZ := hid_ (lenT_zero HF.out)
   have HLB : Hid (∀ s, lenT T s ≤ 16) := hid_ (fun s => bitsT_len HF.out s)
   clear hs2 hv2 hu hxw ek
   go_wp2_with fail
   go_loop [11, 41] (fun v i => ∃ k : Nat, k ≤ counts.length ∧ i = .int .i64 (k : Int) ∧ v = .int .i64 (costL T counts k) ∧ (∀ j, (hj : j < counts.length) → j < k → counts[j] ≤ 0 ∨ (findT T (j : Int)).isSome = true)) (fun _ i => counts.length - (intOf i).toNat)
   case atStart => exact ⟨0, by omega, rfl, rfl, by intro j _ hj; omega⟩
   case round =>
    obtain ⟨m, hmk, rfl, rfl, hall⟩ := hrel
    have HALR := hid_ hall
    clear hall
    by_cases hlt2 : m < counts.length
    ·obtain ⟨ad, u, hA, -, hxk, hcell⟩ := hvr.at1 hlt2
     obtain ⟨hkl, rfl⟩ := ints_at _ _ _ hxk
     subst hA
     obtain ⟨n0, n1⟩ := HALL.out _ (List.getElem_mem hkl)
     obtain ⟨z0, z1⟩ := HCB.out m (by omega)
     have HCS := hid_ (costL_succ T counts m hkl)
     have hlk := HLK.out (m : Int)
     have hlz := HLZ.out (m : Int)
     have hlb := HLB.out (m : Int)
     have HNO := hid_ (fun h h' => hasAll_no (T := T) hkl h h')
     have hkeym := hid_ (keyOf_i64 (P := Tryz.prog) Tryz.underlying3 (a := (m : Int)) (by omega) (by omega))
     generalize hn : counts[m] = n at *
     have HN := hid_ hn
     clear hxk hn
     obtain ⟨nn, rfl⟩ : ∃ nn : Nat, n = (nn : Int) := ⟨n.toNat, by omega⟩
     have hprod : nn * lenT T (m : Int) ≤ 9999 * 16 := Nat.mul_le_mul (by omega) hlb
     have HLKM := hid_ hlk
     have HLZM := hid_ hlz
     clear hlk hlz
     generalize lenT T (m : Int) = l at *
     have hp0 : (0 : Int) ≤ (nn : Int) * (l : Int) := by rw [← Int.natCast_mul]; omega
     have hp1 : (nn : Int) * (l : Int) ≤ 159984 := by rw [← Int.natCast_mul]; omega
     by_cases hpos : 0 < nn
     ·have hd : decide ((0 : Int) < (nn : Int)) = true := by simpa using hpos
      by_cases hl0 : l = 0
      ·have HNO' := hid_ (HNO.out (by omega) (HLZM.out.1 hl0))
       have HLK0 : Hid ((longF T (m : Int)).getD (.int .i64 0) = .int .i64 0) := hid_ (by rw [HLKM.out, hl0]; rfl)
       clear hprod hl0
       go_wp2_with (at_lookup; refine wpList_look_g (by rfl) _ _ 136 3 rfl keyed_int' Tryz.underlying136 _ (zero_int _) rfl hm _ rfl (m : Int) trivial hkeym.out _ HLK0.out ?_)
       go_ret2
       rw [HE.out, HNO'.out]
       exact ⟨rfl, hxr⟩
      ·have hl1 : ((l : Int) == 0) = false := by simpa using hl0
       have HSM : Hid ((findT T (m : Int)).isSome = true) := hid_ (by
        cases hq : findT T (m : Int) with
        | none => exact absurd (HLZM.out.2 hq) hl0
        | some t => rfl)
       clear hprod hl0
       go_wp2_with (first
        | (at_lookup; refine wpList_look_g (by rfl) _ _ 136 3 rfl keyed_int' Tryz.underlying136 _ (zero_int _) rfl hm _ rfl (m : Int) trivial hkeym.out _ HLKM.out ?_))
       go_round
       case rel =>
        refine ⟨m + 1, by omega, by go_num, by rw [HCS.out], fun j hj hjm => ?_⟩
        by_cases hjk : j = m
        ·subst hjk; exact .inr HSM.out
        ·exact HALR.out j hj (by omega)
       case measure => simp [intOf]; omega
     ·have hd : decide ((0 : Int) < (nn : Int)) = false := by simpa using hpos
      obtain rfl : nn = 0 := by omega
      have hzm : ((0 : Nat) : Int) * (l : Int) = 0 := by simp
      clear hprod hpos hd
      go_wp2_with (at_lookup; refine wpList_look_g (by rfl) _ _ 136 3 rfl keyed_int' Tryz.underlying136 _ (zero_int _) rfl hm _ rfl (m : Int) trivial hkeym.out _ HLKM.out ?_)
      go_round
      case rel =>
       refine ⟨m + 1, by omega, by go_num, vint (by rw [HCS.out]; simp), fun j hj hjm => ?_⟩
       by_cases hjk : j = m
       ·subst hjk; exact .inl (by have := HN.out; omega)
       ·exact HALR.out j hj (by omega)
      case measure => simp [intOf]; omega
    ·have emk : m = counts.length := by omega
     have HYES := hid_ (hasAll_yes (T := T) (counts := counts) (fun j hj => HALR.out j hj (by omega)))
     rw [emk]
     go_wp2_with fail
     go_ret2
     rw [HE.out, HYES.out]
     exact ⟨rfl, hxr⟩
theorem cost_any (cs xs counts : List Int) (sl sv : Value) (w : World) (hl : cs.length = 16) (hs : SL w 1 sl xs.length (ints xs)) (hv : SL w 1 sv counts.length (ints counts)) :
 Calls Tryz.prog 80 #[.agg (tblv cs sl), sv] w fun e w' => e = .returned (.tuple #[.int .i64 (costZ cs xs counts).1, .int .i64 (costZ cs xs counts).2]) ∧ Ext w w' := by
 by_cases h : checkZ cs xs = 0
 ·by_cases h2 : bcheckZ counts = 0
  ·exact cost_good cs xs counts sl sv w hl hs hv h h2
  ·exact cost_bad cs xs counts sl sv w hl hs hv (.inr ⟨h, h2⟩)
 ·exact cost_bad cs xs counts sl sv w hl hs hv (.inl h)
end
end Go.Proofs.YtlhggcbpipmjhaaGreatDoor
