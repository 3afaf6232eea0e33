/- Contracts for the law RescueHurtsCard, part 5: what the functions that it reaches answer, for all arguments that the theorems name. -/
import Derived.Deep.MidRow
import Derived.Test.YtkggcjdlpendfaaGreatDoorMRescueHurtsCard2
import Derived.Test.YtkggcjdlpendfaaGreatDoorMRescueHurtsCard1
import Derived.Test.YtkggcjdlpendfaaGreatDoorMRescueHurtsCard3
import Derived.Test.YtkggcjdlpendfaaGreatDoorMRescueHurtsCard4
import Derived.Deep.QuietTactic
import Derived.BigQuiet
import Derived.WalkKit
import Derived.StillTail
import Derived.Laws.MakeOwn
import Derived.Deep.Cut
import Derived.StillTailTactics
namespace Go.Proofs.YtkggcjdlpendfaaGreatDoor
set_option linter.unusedVariables false
set_option linter.unusedSimpArgs false
open Go.RowKit
theorem blk_setCells {g : Nat} {t : TypeId} : ∀ (news old a b : List Value) (w : World), old.length = news.length → Blk w g t (a ++ (old ++ b)).toArray → Blk (w.setCells g a.length news) g t (a ++ (news ++ b)).toArray
 | [], old, a, b, w, hl, h => by
   have : old = [] := List.length_eq_zero_iff.1 (by simpa using hl)
   subst this
   exact h
 | v :: news, [], a, b, w, hl, h => by simp at hl
 | v :: news, o :: old, a, b, w, hl, h => by
   have h1 := h.set_ a.length v
   rw [List.setIfInBounds_toArray, List.set_append_right _ _ (Nat.le_refl _), Nat.sub_self, List.cons_append, List.set_cons_zero] at h1
   have h2 : Blk (w.setCell ⟨g, a.length, none⟩ v) g t ((a ++ [v]) ++ (old ++ b)).toArray := by simpa using h1
   have h3 := blk_setCells news old (a ++ [v]) b _ (by simpa using hl) h2
   rw [World.setCells]
   have e : (a ++ [v]).length = a.length + 1 := by simp
   rw [e] at h3
   simpa using h3
theorem upd_setCells {g : Nat} : ∀ (news : List Value) (o : Nat) (w : World), Upd (fun b => b = g) w (w.setCells g o news)
 | [], _, w => Upd.refl _ w
 | v :: news, o, w => by
   rw [World.setCells]
   have h1 := (Upd.refl (fun b => b = g) w).setCell (p := ⟨g, o, none⟩) rfl v
   exact h1.trans (upd_setCells news (o + 1) _) (fun x h => .inl h)
section
variable {P : Program} {ops : Array Oper} {rest : List Oper} {o : Oper} {ac : Act} {w : World} {Q : Exit → Act → World → Prop}
theorem wpList_store_part (hgd : o.guard = none) (ty : TypeId) (x y : Operand) (ho : o.op = .store ty x y) (g off : Nat) (news : List Value) (hx : ac.eval x = .pointer (some ⟨g, off, none⟩)) (hy : ac.eval y = .agg news.toArray)
 {t : TypeId} {a old b : List Value} (hB : Blk w g t (a ++ (old ++ b)).toArray) (ha : a.length = off) (hl : old.length = news.length) (hs : (P.info? ty).map (·.size) = some news.length) (h1 : ∀ v ∈ news, v.oneCell' = true)
 (h : ∀ w1, Blk w1 g t (a ++ (news ++ b)).toArray → Upd (fun b => b = g) w w1 → wpList P ops Q rest (ac.put o.dst undef) w1) : wpList P ops Q (o :: rest) ac w := by
 subst ha
 refine wpList_store_mid hgd ty x y ho g a.length news.toArray hx hy (fun j hj => ⟨?_, hB.frozen _⟩) (by simpa using hs) (all_oneCell_toArray h1) (h _ (blk_setCells news old a b w hl hB) (upd_setCells _ _ _))
 rw [hB.cell]
 have hj : j < news.length := by simpa using hj
 simp only [List.getElem?_toArray]
 rw [List.getElem?_append_right (by omega), List.getElem?_append_left (by omega), List.getElem?_eq_getElem (by omega)]
 rfl
end
theorem set_part (a m b : List Value) (off k : Nat) (v : Value) (ha : a.length = off) (hk : k < m.length) : (a ++ (m ++ b)).toArray.setIfInBounds (off + k) v = (a ++ (m.set k v ++ b)).toArray := by
 subst ha
 rw [List.setIfInBounds_toArray, List.set_append_right _ _ (by omega), List.set_append_left _ _ (by omega)]
 congr 4
 omega
theorem ex_loadL {o : Oper} {a : Act} {x : Operand} (ho : o.op = .load 22 x) {p : Addr} (hx : a.eval x = .pointer (some p)) {A : Option Addr} {n c : Nat} {w : World} (h : w.cell? p = some (.slice A n c)) : (execOp a.eval o).run Tryz.prog w = .ok (.value (.slice A n c)) w := by
 have hr : (loadVar 22 p).run Tryz.prog w = .ok (.slice A n c) w := by
  have hi : (Tryz.prog.info? 22).map (·.size) = some 1 := by kernel_rfl
  simp [loadVar, Sem.run_bind, isAgg, run_underlying Tryz.underlying22, run_load, h]
 simp [execOp, ho, hx, Instr.loadAt, Instr.sureAddr, Sem.run_bind, hr]
theorem wl_storeL {ops : Array Oper} {Q : Exit → Act → World → Prop} {rest : List Oper} {o : Oper} {a : Act} {w : World} (hg : o.guard = none) (x y : Operand) (ho : o.op = .store 22 x y) (g i : Nat) (A : Option Addr) (n c : Nat) (hx : a.eval x = .pointer (some ⟨g, i, none⟩)) (hy : a.eval y = .slice A n c)
 {t : TypeId} {cs : Array Value} (hB : Blk w g t cs) (hi : i < cs.size) (h : wpList Tryz.prog ops Q rest (a.put o.dst undef) (w.setCell ⟨g, i, none⟩ (.slice A n c))) : wpList Tryz.prog ops Q (o :: rest) a w :=
 wpList_plain hg fun _ hK => by
  have hc := (hB.cell i).trans (Array.getElem?_eq_getElem hi)
  have hf := hB.frozen i
  unfold Oper.wp execOp
  simp only [ho, hx, hy]
  go_simp
  exact hK _ _ h
theorem sizeTbl1 : (Tryz.prog.info? 42).map (·.size) = some 17 := by kernel_rfl
structure FC where
 wd : Int
 hi : Int
 pt : Int
 qs : List Int
 cs1 : List Int
 xs1 : List Int
 cs2 : List Int
 xs2 : List Int
 ev : Int
 data : List Nat
def FC.zero : FC := ⟨0, 0, 0, List.replicate 64 0, List.replicate 16 0, [], List.replicate 16 0, [], 0, []⟩
def FC.cells (F : FC) (s1 s2 sd : Value) : Array Value := (fileL F.wd F.hi F.pt F.qs (tblL F.cs1 s1) (tblL F.cs2 s2) F.ev sd).toArray
def FC.at_ (F : FC) (w : World) (s1 s2 sd : Value) : Prop := SL w 1 s1 F.xs1.length (ints F.xs1) ∧ SL w 1 s2 F.xs2.length (ints F.xs2) ∧ SL w 1 sd F.data.length (bytesV F.data)
def FC.shaped (F : FC) : Prop := F.qs.length = 64 ∧ F.cs1.length = 16 ∧ F.cs2.length = 16
theorem FC.at_.ext {F : FC} {w w' : World} {s1 s2 sd : Value} (h : F.at_ w s1 s2 sd) (hx : Ext w w') : F.at_ w' s1 s2 sd := ⟨h.1.ext hx, h.2.1.ext hx, h.2.2.ext hx⟩
theorem FC.size {F : FC} (h : F.shaped) (s1 s2 sd : Value) : (F.cells s1 s2 sd).size = 103 := fileL_len _ _ _ _ _ _ _ _ h.1 (tblL_len _ _ h.2.1) (tblL_len _ _ h.2.2)
theorem zero_shaped : FC.zero.shaped := ⟨rfl, rfl, rfl⟩
def zFile : Array Value := FC.zero.cells (.slice none 0 0) (.slice none 0 0) (.slice none 0 0)
theorem zero_at (w : World) : FC.zero.at_ w (.slice none 0 0) (.slice none 0 0) (.slice none 0 0) := ⟨SL.nil w 1, SL.nil w 1, SL.nil w 1⟩
theorem zeroFileV : (Tryz.prog.info? 47).bind (·.zero) = some (.agg zFile) := by kernel_rfl
set_option maxRecDepth 20000 in
theorem built0F : Tryz.prog.built 47 [] = some zFile := by
 show _ = _
 kernel_rfl
theorem zFile_size : zFile.size = 103 := by unfold zFile; exact FC.size zero_shaped _ _ _
theorem cells_d (wd hi pt ev : Int) (qs : List Int) (t1 t2 : List Value) (sd u : Value) (hq : qs.length = 64) (h1 : t1.length = 17) (h2 : t2.length = 17) : (fileL wd hi pt qs t1 t2 ev sd).toArray.setIfInBounds 102 u = (fileL wd hi pt qs t1 t2 ev u).toArray := by
 have e : ∀ s, (fileL wd hi pt qs t1 t2 ev s).toArray = ((ints [wd, hi, pt] ++ ints qs ++ t1 ++ t2 ++ [Value.int .i64 ev]) ++ ([s] ++ [])).toArray := fun s => by simp [fileL]
 rw [e sd, e u]
 exact set_part _ _ _ 102 0 u (by simp [ints_len, hq, h1, h2]) (by simp)
theorem tblP_one (cs : List Int) (A : Option Addr) (k c : Nat) : ∀ v ∈ tblL cs (.slice A k c), v.oneCell' = true := by
 intro v hv
 unfold tblL at hv
 rcases List.mem_append.1 hv with hv | hv
 ·exact ints_one_mem _ v hv
 ·simp at hv; subst hv; rfl
theorem fileOne (F : FC) (A B C : Option Addr) (a b c d e f : Nat) : (F.cells (.slice A a b) (.slice B c d) (.slice C e f)).all (·.oneCell') = true := by
 unfold FC.cells fileL
 rw [List.all_toArray, List.all_eq_true]
 intro v hv
 simp only [List.mem_append] at hv
 rcases hv with (((hv | hv) | hv) | hv) | hv
 ·exact ints_one_mem _ v hv
 ·exact ints_one_mem _ v hv
 ·exact tblP_one _ _ _ _ v hv
 ·exact tblP_one _ _ _ _ v hv
 ·simp at hv; rcases hv with rfl | rfl <;> rfl
theorem zFile_one : zFile.all (·.oneCell') = true := fileOne _ _ _ _ _ _ _ _ _ _
section
variable {ops : Array Oper} {rest : List Oper} {o : Oper} {ac : Act} {w : World} {Q : Exit → Act → World → Prop}
theorem wl_storeB {i : Nat} {A : Option Addr} {n c : Nat} (hg : o.guard = none) (x y : Operand) (ho : o.op = .store 45 x y) (g : Nat) (hx : ac.eval x = .pointer (some ⟨g, i, none⟩)) (hy : ac.eval y = .slice A n c)
 {t : TypeId} {cs : Array Value} (hB : Blk w g t cs) (hi : i < cs.size) (h : wpList Tryz.prog ops Q rest (ac.put o.dst undef) (w.setCell ⟨g, i, none⟩ (.slice A n c))) : wpList Tryz.prog ops Q (o :: rest) ac w :=
 wpList_plain hg fun _ hK => by
  have hc := (hB.cell i).trans (Array.getElem?_eq_getElem hi)
  have hf := hB.frozen i
  unfold Oper.wp execOp
  simp only [ho, hx, hy]
  go_simp
  exact hK _ _ h
theorem store_d (hgd : o.guard = none) (x y : Operand) (ho : o.op = .store 45 x y) (gf : Nat) (F : FC) (hF : F.shaped) (s1 s2 sd : Value) (data : List Nat) (A : Option Addr) (n c : Nat) (hx : ac.eval x = .pointer (some ⟨gf, 102, none⟩)) (hy : ac.eval y = .slice A n c)
 (hB : Blk w gf 47 (F.cells s1 s2 sd)) (h : ∀ w1, Blk w1 gf 47 (FC.cells { F with data := data } s1 s2 (.slice A n c)) → Upd (fun b => b = gf) w w1 → wpList Tryz.prog ops Q rest (ac.put o.dst undef) w1) : wpList Tryz.prog ops Q (o :: rest) ac w := by
 refine wl_storeB hgd x y ho gf hx hy hB (by rw [FC.size hF]; omega) (h _ ?_ ((Upd.refl (fun b => b = gf) w).setCell (p := ⟨gf, 102, none⟩) rfl _))
 have := hB.set_ 102 (.slice A n c)
 unfold FC.cells at this ⊢
 rwa [cells_d _ _ _ _ _ _ _ _ _ hF.1 (tblL_len _ _ hF.2.1) (tblL_len _ _ hF.2.2)] at this
end
def hurtN (P : List (List Nat)) (M : List Nat) (k : Int) : Nat → List Nat
 | 0 => []
 | i + 1 => hurtN P M k i ++ (if i = 0 then [] else [255, M.getD (i - 1) 0 % 256]) ++ (if (i : Int) = k then [] else P.getD i [])
theorem hurtN_len {P : List (List Nat)} {M : List Nat} {k : Int} {B : Nat} (h : ∀ p ∈ P, p.length ≤ B) : ∀ i, (hurtN P M k i).length ≤ i * (B + 2)
 | 0 => by simp [hurtN]
 | i + 1 => by
   have ih := hurtN_len (M := M) (k := k) h i
   have h1 : (if i = 0 then ([] : List Nat) else [255, M.getD (i - 1) 0 % 256]).length ≤ 2 := by split <;> simp
   have h2 : (if (i : Int) = k then [] else P.getD i []).length ≤ B := by
    split
    ·simp
    ·rw [List.getD_eq_getElem?_getD]
     cases hp : P[i]? with
     | none => simp
     | some p => exact h p (List.mem_of_getElem? hp)
   rw [hurtN, List.length_append, List.length_append, Nat.add_mul]
   omega
theorem sp_marks : ∀ (r : List Nat) (P : List (List Nat)) (M c : List Nat) (z : List (List Nat) × List Nat), spGo r P M c = some z → P.length = M.length → z.1.length = z.2.length + 1
 | [], P, M, c, z, h, e => by simp [spGo] at h; subst h; simp [e]
 | [x], P, M, c, z, h, e => by
   simp only [spGo] at h
   split at h
   ·cases h
   ·simp at h; subst h; simp [e]
 | x :: y :: r, P, M, c, z, h, e => by
   simp only [spGo] at h
   split at h
   ·split at h
    ·cases h
    ·split at h
     ·exact sp_marks r P M (c ++ [255, 0]) z h e
     ·exact sp_marks r (P ++ [c]) (M ++ [y]) [] z h (by simp [e])
   ·exact sp_marks (y :: r) P M (c ++ [x]) z h e
theorem allWithin1_any (g1 g2 : Nat) (z lo hi : Int) (w : World) (h1 : w.cell? ⟨g1, 0, none⟩ = some (.int .i64 lo)) (h2 : w.cell? ⟨g2, 0, none⟩ = some (.int .i64 hi)) :
 Calls Tryz.prog 98 (#[.int .i64 z] ++ #[.pointer (some ⟨g1, 0, none⟩), .pointer (some ⟨g2, 0, none⟩)]) w fun e w' => e = .returned (.bool (decide (z < lo) || decide (hi < z))) ∧ w = w' := by
 by_cases h : z < lo
 ·have h' : decide (z < lo) = true := by simpa using h
  go_enter Tryz.func98, Tryz.ntmps98
  go_wp2
  go_ret
  exact ⟨by rw [h']; rfl, rfl⟩
 ·have h' : decide (z < lo) = false := by simpa using h
  go_enter Tryz.func98, Tryz.ntmps98
  go_wp2
  go_ret
  exact ⟨by simp, rfl⟩
theorem enters_aw1 : Enters Tryz.prog 98 := enters_of Tryz.func98 (by kernel_rfl) rfl
set_option maxHeartbeats 400000 in
theorem allWithin_any (zs : List Int) (lo hi : Int) (w : World) (hz : zs.length = 64) :
 Calls Tryz.prog 43 #[.agg (bv zs), .int .i64 lo, .int .i64 hi] w fun e w' => e = .returned (.bool (allIn zs lo hi)) ∧ Ext w w' := by
 have HZ : Hid (zs.length = 64) := hz
 have hs := (bv_size zs).trans hz
 have HS : Hid ((bv zs).size = 64) := hs
 have hmf : ∀ (fn : Fn) (first cap : Array Value) (w : World), (Instr.makeFunc fn first cap).run Tryz.prog w = .ok (.func fn first cap) w := fun _ _ _ _ => rfl
 have hcont := containsFunc_any 98 #[.pointer (some ⟨w.heap.size + 1, 0, none⟩), .pointer (some ⟨w.heap.size + 1 + 1, 0, none⟩)] (fun z => decide (z < lo) || decide (hi < z)) enters_aw1
  (.slice (some ⟨w.heap.size, 0, none⟩) 64 64) zs (((w.alloc (.cells (bv zs) 33)).alloc (.cells #[.int .i64 lo] 3)).alloc (.cells #[.int .i64 hi] 3))
  (by
    have h := (((Blk.new w 33 (bv zs)).alloc (.cells #[.int .i64 lo] 3)).alloc (.cells #[.int .i64 hi] 3)).bsl (c := 64) (by omega) (by omega)
    rwa [hz] at h ⊢)
  (fun z _ => allWithin1_any (w.heap.size + 1) (w.heap.size + 1 + 1) z lo hi _ (by
    have h := ((Blk.new (w.alloc (.cells (bv zs) 33)) 3 #[.int .i64 lo]).alloc (.cells #[.int .i64 hi] 3)).cell 0
    rwa [World.size_alloc] at h) (by
    have h := (Blk.new ((w.alloc (.cells (bv zs) 33)).alloc (.cells #[.int .i64 lo] 3)) 3 #[.int .i64 hi]).cell 0
    rwa [World.size_alloc, World.size_alloc] at h))
 have HC := hid_ hcont
 generalize hcs : bv zs = cs at *
 clear hs hz hcs hcont
 go_enter Tryz.func43, Tryz.ntmps43
 go_wp2_with fail
 refine HC.out.mono ?_
 rintro e w' ⟨rfl, rfl⟩
 go_wp2_with fail
 go_ret
 refine ⟨?_, ((Ext.refl w).alloc _).alloc _ |>.alloc _⟩
 rw [← allIn_not]
 rfl
set_option maxHeartbeats 400000 in
theorem qcheck_any (zs : List Int) (w : World) (hz : zs.length = 64) :
 Calls Tryz.prog 15 #[.agg (bv zs)] w fun e w' => e = .returned (.int .i64 (if allIn zs 1 255 then 0 else 1)) ∧ Ext w w' := by
 have hs := (bv_size zs).trans hz
 have HS : Hid ((bv zs).size = 64) := hs
 have hc := hid_ (fun W => allWithin_any zs 1 255 W hz)
 generalize hcs : bv zs = cs at *
 clear hs hz hcs
 cases hb : allIn zs 1 255 with
 | true =>
   rw [hb] at hc
   go_enter Tryz.func15, Tryz.ntmps15
   go_wp2_with (first | (refine wLdB rfl 33 _ rfl _ rfl (Blk.new w 33 cs) _ Tryz.underlying33 rfl 64 size48 HS.out ?_) | (go_at_call 43; refine (hc.out _).mono ?_; rintro e w' ⟨rfl, hx⟩))
   go_ret
   exact ⟨rfl, ((Ext.refl w).alloc _).trans hx⟩
 | false =>
   rw [hb] at hc
   go_enter Tryz.func15, Tryz.ntmps15
   go_wp2_with (first | (refine wLdB rfl 33 _ rfl _ rfl (Blk.new w 33 cs) _ Tryz.underlying33 rfl 64 size48 HS.out ?_) | (go_at_call 43; refine (hc.out _).mono ?_; rintro e w' ⟨rfl, hx⟩))
   go_ret
   exact ⟨rfl, ((Ext.refl w).alloc _).trans hx⟩
set_option maxHeartbeats 400000
set_option maxHeartbeats 400000 in

def bothZ (F : Int → Int → Int) (zs qs : List Int) (most : Int) : List Int × Int :=
 if allIn qs 1 255 then (if allIn zs (-most) most then (List.zipWith F zs qs, 0) else (zeros64, 1)) else (zeros64, 1)
def RowsS (w : World) (A : Option Addr) (n c : Nat) (L : List (List Int)) : Prop :=
 ∃ vs : List Value, SL w 1 (.slice A n c) n vs ∧ L.length = n ∧ ∀ (k : Nat) (l : List Int), L[k]? = some l → ∃ (B : Option Addr) (d : Nat), vs[k]? = some (Value.slice B l.length d) ∧ SL w 1 (.slice B l.length d) l.length (ints l)
theorem RowsS.nil (w : World) : RowsS w none 0 0 [] := ⟨[], SL.nil w 1, rfl, by simp⟩
section
variable {P : Program} {ops : Array Oper} {md : Region.Mode} {F : Nat → Bool} {I : World → Prop}
def wpAnyF (P : Program) (md : Region.Mode) (ops : Array Oper) (F : Nat → Bool) (I : World → Prop) (QN : Act → World → Prop) : Nat → Array Bool → Act → World → Prop
 | 0, listed, a, w => Region.ready md ops listed = [] ∧ QN a w
 | f + 1, listed, a, w => (Region.ready md ops listed = [] → QN a w) ∧
   ∀ i ∈ Region.ready md ops listed, wpOp P ops (onlyN QN) i (fun a' w' => (F i = true → I w') ∧ wpAnyF P md ops F I QN f (listed.setIfInBounds i true) a' w') a w
variable {QN : Act → World → Prop}
def keepsB (md : Region.Mode) (ops : Array Oper) (F : Nat → Bool) (k : Nat) : Bool :=
 (List.range ops.size).all fun j => F j || match ops[j]? with | some oj => oj.after.any (fun e => Region.binds md e && e.on == k) | none => true
theorem keepsB_spec {k : Nat} (h : keepsB md ops F k = true) : ∀ j oj, ops[j]? = some oj → F j = false → ∃ e ∈ oj.after, Region.binds md e = true ∧ e.on = k := by
 intro j oj hj hF
 unfold keepsB at h
 rw [List.all_eq_true] at h
 have hjs : j < ops.size := (Array.getElem?_eq_some_iff.1 hj).1
 have := h j (List.mem_range.2 hjs)
 rw [hF, hj, Bool.false_or] at this
 simp only [Array.any_eq_true] at this
 obtain ⟨x, hx, h2⟩ := this
 simp only [Bool.and_eq_true, beq_iff_eq] at h2
 exact ⟨oj.after[x], Array.getElem_mem hx, h2.1, h2.2⟩
theorem wpAny_of_F : ∀ (f : Nat) (listed : Array Bool) (a : Act) (w : World), wpAnyF P md ops F I QN f listed a w → wpAny P md ops (onlyN QN) f listed a w
 | 0, _, _, _, h => ⟨h.1, h.2⟩
 | f + 1, _, _, _, h => ⟨fun h0 => h.1 h0, fun i hi => wpOp_mono (fun a' w' h' => wpAny_of_F f _ a' w' h'.2) (h.2 i hi)⟩
theorem wpAnyF_first {i : Nat} {oi : Oper} {v : Value} (hF : ∀ j oj, ops[j]? = some oj → F j = false → ∃ e ∈ oj.after, Region.binds md e = true ∧ e.on = i) (hi : ops[i]? = some oi) (hsel : ∀ (j : Nat) (o : Oper) cs b, ops[j]? = some o → o.op ≠ .select cs b) :
 ∀ (fuel : Nat) (listed : Array Bool) (a : Act) (w : World),
  (∀ j oj, ops[j]? = some oj → j ≠ i → listed.getD j true = false → (∀ e ∈ oj.after, Region.binds md e = true → e.on ≠ i) → oi.apart ops oj = true) →
  i ∈ Region.ready md ops listed → Fixed P ops I oi v a → I w →
  wpAnyF P md ops F I QN fuel (listed.setIfInBounds i true) (a.put oi.dst v) w → wpAnyF P md ops F I QN (fuel + 1) listed a w := by
 intro fuel
 induction fuel with
 | zero =>
   intro listed a w _ hr hy hI H
   refine ⟨fun h => (by rw [h] at hr; cases hr), fun j hj => ?_⟩
   by_cases hji : j = i
   ·subst hji; exact hy.wpOp hi hI ⟨fun _ => hI, H⟩
   ·have := ready_mono hj hji
    rw [H.1] at this
    cases this
 | succ fuel ih =>
   intro listed a w hfree hr hy hI H
   refine ⟨fun h => (by rw [h] at hr; cases hr), fun j hj => ?_⟩
   by_cases hji : j = i
   ·subst hji; exact hy.wpOp hi hI ⟨fun _ => hI, H⟩
   ·have h1 := H.2 j (ready_mono hj hji)
    obtain ⟨hjun, oj, hoj, hall⟩ := mem_ready.1 hj
    have hnot : ∀ e ∈ oj.after, Region.binds md e = true → e.on ≠ i := fun e he hb heq => by
     have h1 := hall e he hb
     have h0 := (mem_ready.1 hr).1
     rw [heq] at h1
     rcases Nat.lt_or_ge i listed.size with h' | h'
     ·simp [h'] at h0 h1; rw [h0] at h1; cases h1
     ·simp [Array.getElem?_eq_none h'] at h1
    have hFj : F j = true := by
     cases hq : F j with
     | true => rfl
     | false =>
       obtain ⟨e, he, hb, heq⟩ := hF j oj hoj hq
       exact absurd heq (hnot e he hb)
    have h2 := wpOp_putI hoj (hfree j oj hoj hji hjun hnot) (fun cs b => hsel i oi cs b hi) (fun cs b => hsel j oj cs b hoj) (fun _ _ _ h => h) hy h1
    have hfree' : ∀ k ok, ops[k]? = some ok → k ≠ i → (listed.setIfInBounds j true).getD k true = false →
     (∀ e ∈ ok.after, Region.binds md e = true → e.on ≠ i) → oi.apart ops ok = true := fun k ok hk hki hun hno => by
     refine hfree k ok hk hki ?_ hno
     by_cases hjk : j = k
     ·subst hjk; exact hjun
     ·rw [getD_set_ne true hjk] at hun; exact hun
    refine wpOp_mono (fun a' w' h3 => ⟨h3.2.1, ih (listed.setIfInBounds j true) a' w' hfree' (ready_mono hr (Ne.symm hji)) h3.1 (h3.2.1 hFj) ?_⟩) h2
    rw [Array.setIfInBounds_comm _ _ hji]
    exact h3.2.2
theorem of_loud0 {k f : Nat} {o : Oper} {listed : Array Bool} {a : Act} {w : World} (hone : Region.ready md ops listed = [k]) (ho : ops[k]? = some o)
 (h : wpList P ops (onlyN fun a' w' => (F k = true → I w') ∧ wpAnyF P md ops F I QN f (listed.setIfInBounds k true) a' w') [o] a w) : wpAnyF P md ops F I QN (f + 1) listed a w :=
 ⟨fun h0 => (by rw [h0] at hone; cases hone), fun i hi => by
  rw [hone] at hi
  have hik : i = k := by simpa using hi
  subst hik
  exact wpOp_of_list ho h⟩
theorem of_fix0 {k f : Nat} {o : Oper} {listed : Array Bool} {a : Act} {w : World} (hB : ((Region.ready md ops listed).contains k && Region.free md ops listed k && Region.noSelect ops && keepsB md ops F k) = true) (ho : ops[k]? = some o)
 (hw : Region.wanted o (yielded ops a.tmps) = true) (v : Value) (h1 : ∀ w, I w → (execOp a.eval o).run P w = .ok (.value v) w) (hI : I w)
 (h : wpAnyF P md ops F I QN f (listed.setIfInBounds k true) (a.put o.dst v) w) : wpAnyF P md ops F I QN (f + 1) listed a w := by
 simp only [Bool.and_eq_true] at hB
 exact wpAnyF_first (keepsB_spec hB.2) ho (Region.noSelect_spec hB.1.2) f listed a w (Region.free_spec ho hB.1.1.2) (by simpa using hB.1.1.1) (.inl ⟨hw, h1⟩) hI h
section
variable {l0 : List Oper}
theorem of_fix {k f : Nat} {o : Oper} {listed : Array Bool} {a : Act} {w : World} (hB : ((Region.ready md l0.toArray listed).contains k && Region.free md l0.toArray listed k && Region.noSelect l0.toArray && keepsB md l0.toArray F k) = true) (ho : l0[k]? = some o)
 (hw : Region.wanted o (yielded l0.toArray a.tmps) = true) (v : Value) (h1 : ∀ w, I w → (execOp a.eval o).run P w = .ok (.value v) w) (hI : I w)
 (h : wpAnyF P md l0.toArray F I QN f (listed.setIfInBounds k true) (a.put o.dst v) w) : wpAnyF P md l0.toArray F I QN (f + 1) listed a w := of_fix0 hB (by simpa using ho) hw v h1 hI h
theorem of_run {k f : Nat} {o : Oper} {listed : Array Bool} {a : Act} {w : World} (hB : ((Region.ready md l0.toArray listed).contains k && Region.free md l0.toArray listed k && Region.noSelect l0.toArray && keepsB md l0.toArray F k) = true) (ho : l0[k]? = some o)
 (hw : Region.wanted o (yielded l0.toArray a.tmps) = true) (v : Value) (h1 : ∀ w, (execOp a.eval o).run P w = .ok (.value v) w) (hI : I w)
 (h : wpAnyF P md l0.toArray F I QN f (listed.setIfInBounds k true) (a.put o.dst v) w) : wpAnyF P md l0.toArray F I QN (f + 1) listed a w := of_fix hB ho hw v (fun w _ => h1 w) hI h
theorem of_loud {k f : Nat} {o : Oper} {listed : Array Bool} {a : Act} {w : World} (hone : Region.ready md l0.toArray listed = [k]) (ho : l0[k]? = some o)
 (h : wpList P l0.toArray (onlyN fun a' w' => (F k = true → I w') ∧ wpAnyF P md l0.toArray F I QN f (listed.setIfInBounds k true) a' w') [o] a w) : wpAnyF P md l0.toArray F I QN (f + 1) listed a w := of_loud0 hone (by simpa using ho) h
end
theorem wp_region_of (F : Nat → Bool) (I : World → Prop) {id : Nat} {a : Act} {w : World} {l : List Oper} {Q : Exit → Act → World → Prop} (hm : P.follows .mixedOrders = true)
 (h : wpAnyF P .any l.toArray F I (fun a w => Q .normal a w) l.length (Array.replicate l.length false) a w.drew) : (Code.region id l.toArray true).wp P Q a w := by
 refine Code.wp_mono (Q := onlyN (fun a w => Q .normal a w)) (fun e a w h => ?_) (wp_region_any hm (wpAny_of_F _ _ _ _ (by simpa using h)))
 cases e <;> first | exact h | exact (h : False).elim
theorem of_done {listed : Array Bool} {a : Act} {w : World} (hone : Region.ready md ops listed = []) (h : QN a w) : wpAnyF P md ops F I QN 0 listed a w := ⟨hone, h⟩
end
section
variable {P : Program} {ops : Array Oper} {md : Region.Mode} {F : Nat → Bool} {I : World → Prop} {QN : Act → World → Prop}
theorem wpAnyG_first {J : World → Prop} {i : Nat} {oi : Oper} {v : Value} (Wt : Nat → Bool) (hWt : ∀ j oj, ops[j]? = some oj → Wt j = true → ∃ e ∈ oj.after, Region.binds md e = true ∧ (e.on = i ∨ Wt e.on = true)) (hi : ops[i]? = some oi) (hsel : ∀ (j : Nat) (o : Oper) cs b, ops[j]? = some o → o.op ≠ .select cs b) :
 ∀ (fuel : Nat) (listed : Array Bool) (a : Act) (w : World),
  (∀ j, Wt j = true → listed.getD j true = false) →
  (∀ w, J w → F i = true → I w) → (∀ w, (∀ j oj, ops[j]? = some oj → listed.getD j true = false → j ≠ i → Wt j = true ∨ ∀ w', (F j = true → I w') → J w → J w')) →
  (∀ j oj, ops[j]? = some oj → j ≠ i → listed.getD j true = false → (∀ e ∈ oj.after, Region.binds md e = true → e.on ≠ i) → oi.apart ops oj = true) →
  i ∈ Region.ready md ops listed → Fixed P ops J oi v a → J w →
  wpAnyF P md ops F I QN fuel (listed.setIfInBounds i true) (a.put oi.dst v) w → wpAnyF P md ops F I QN (fuel + 1) listed a w := by
 intro fuel
 induction fuel with
 | zero =>
   intro listed a w hL hJI _ _ hr hy hI H
   refine ⟨fun h => (by rw [h] at hr; cases hr), fun j hj => ?_⟩
   by_cases hji : j = i
   ·subst hji; exact hy.wpOp hi hI ⟨hJI w hI, H⟩
   ·have := ready_mono hj hji
    rw [H.1] at this
    cases this
 | succ fuel ih =>
   intro listed a w hL hJI hK hfree hr hy hI H
   refine ⟨fun h => (by rw [h] at hr; cases hr), fun j hj => ?_⟩
   by_cases hji : j = i
   ·subst hji; exact hy.wpOp hi hI ⟨hJI w hI, H⟩
   ·have h1 := H.2 j (ready_mono hj hji)
    obtain ⟨hjun, oj, hoj, hall⟩ := mem_ready.1 hj
    have hnot : ∀ e ∈ oj.after, Region.binds md e = true → e.on ≠ i := fun e he hb heq => by
     have h1 := hall e he hb
     have h0 := (mem_ready.1 hr).1
     rw [heq] at h1
     rcases Nat.lt_or_ge i listed.size with h' | h'
     ·simp [h'] at h0 h1; rw [h0] at h1; cases h1
     ·simp [Array.getElem?_eq_none h'] at h1
    have hjW : Wt j ≠ true := fun hW => by
     obtain ⟨e, he, hb, h⟩ := hWt j oj hoj hW
     rcases h with heq | h
     ·exact hnot e he hb heq
     ·have h1 := hall e he hb
      have h2 := hL e.on h
      rcases Nat.lt_or_ge e.on listed.size with h' | h'
      ·simp [h'] at h1 h2; rw [h2] at h1; cases h1
      ·simp [Array.getElem?_eq_none h'] at h2
    have hstep : ∀ w', (F j = true → I w') → J w → J w' := by
     rcases hK w j oj hoj hjun hji with h | h
     ·exact absurd h hjW
     ·exact h
    have h2 := wpOp_putI hoj (hfree j oj hoj hji hjun hnot) (fun cs b => hsel i oi cs b hi) (fun cs b => hsel j oj cs b hoj) (fun _ _ _ h => h) hy h1
    have hun' : ∀ k, (listed.setIfInBounds j true).getD k true = false → listed.getD k true = false := fun k hun => by
     by_cases hjk : j = k
     ·subst hjk; exact hjun
     ·rwa [getD_set_ne true hjk] at hun
    have hfree' : ∀ k ok, ops[k]? = some ok → k ≠ i → (listed.setIfInBounds j true).getD k true = false →
     (∀ e ∈ ok.after, Region.binds md e = true → e.on ≠ i) → oi.apart ops ok = true := fun k ok hk hki hun hno => hfree k ok hk hki (hun' k hun) hno
    refine wpOp_mono (fun a' w' h3 => ⟨h3.2.1, ih (listed.setIfInBounds j true) a' w' (fun k hk => by
     have hkj : j ≠ k := fun h => hjW (h ▸ hk)
     rw [getD_set_ne true hkj]; exact hL k hk) hJI (fun w2 k ok hk hun hki => hK w2 k ok hk (hun' k hun) hki) hfree' (ready_mono hr (Ne.symm hji)) h3.1 (hstep w' h3.2.1 hI) ?_⟩) h2
    rw [Array.setIfInBounds_comm _ _ hji]
    exact h3.2.2
def roads (md : Region.Mode) (ops : Array Oper) (k : Nat) : List Nat :=
 (List.range ops.size).foldl (fun L j => match ops[j]? with | some oj => if oj.after.any (fun e => Region.binds md e && (e.on == k || L.contains e.on)) then j :: L else L | none => L) []
def roadsOK (md : Region.Mode) (ops : Array Oper) (listed : Array Bool) (k : Nat) (L : List Nat) : Bool :=
 L.all fun j => !(listed.getD j true) && match ops[j]? with | some oj => oj.after.any (fun e => Region.binds md e && (e.on == k || L.contains e.on)) | none => false
def keepsL (md : Region.Mode) (ops : Array Oper) (F : Nat → Bool) (listed : Array Bool) (k : Nat) : Bool :=
 roadsOK md ops listed k (roads md ops k) && (List.range ops.size).all fun j => F j || listed.getD j true || j == k || (roads md ops k).contains j
theorem roadsOK_spec {listed : Array Bool} {k : Nat} {L : List Nat} (h : roadsOK md ops listed k L = true) : (∀ j oj, ops[j]? = some oj → L.contains j = true → ∃ e ∈ oj.after, Region.binds md e = true ∧ (e.on = k ∨ L.contains e.on = true)) ∧ ∀ j, L.contains j = true → listed.getD j true = false := by
 unfold roadsOK at h
 rw [List.all_eq_true] at h
 refine ⟨fun j oj hj hc => ?_, fun j hc => ?_⟩
 ·have := h j (by simpa using hc)
  rw [hj] at this
  simp only [Bool.and_eq_true, Array.any_eq_true] at this
  obtain ⟨-, x, hx, h2⟩ := this
  simp only [Bool.or_eq_true, beq_iff_eq] at h2
  exact ⟨oj.after[x], Array.getElem_mem hx, h2.1, h2.2⟩
 ·have := h j (by simpa using hc)
  rw [Bool.and_eq_true] at this
  simpa using this.1
theorem keepsL_spec {listed : Array Bool} {k : Nat} (h : keepsL md ops F listed k = true) : ∀ j oj, ops[j]? = some oj → listed.getD j true = false → j ≠ k → F j = false → (roads md ops k).contains j = true := by
 intro j oj hj hl hjk hF
 unfold keepsL at h
 rw [Bool.and_eq_true, List.all_eq_true] at h
 have hjs : j < ops.size := (Array.getElem?_eq_some_iff.1 hj).1
 have := h.2 j (List.mem_range.2 hjs)
 rw [hF, hl, Bool.false_or, Bool.false_or, show (j == k) = false by simpa using hjk, Bool.false_or] at this
 exact this
section
variable {l0 : List Oper}
theorem og_fix {k f : Nat} {o : Oper} {listed : Array Bool} {a : Act} {w : World} (hB : ((Region.ready md l0.toArray listed).contains k && Region.free md l0.toArray listed k && Region.noSelect l0.toArray && keepsL md l0.toArray F listed k) = true) (ho : l0[k]? = some o)
 (hw : Region.wanted o (yielded l0.toArray a.tmps) = true) (v : Value) (h1 : ∀ w, I w → (execOp a.eval o).run P w = .ok (.value v) w) (hI : I w)
 (h : wpAnyF P md l0.toArray F I QN f (listed.setIfInBounds k true) (a.put o.dst v) w) : wpAnyF P md l0.toArray F I QN (f + 1) listed a w := by
 simp only [Bool.and_eq_true] at hB
 have hR : roadsOK md l0.toArray listed k (roads md l0.toArray k) = true := by
  have := hB.2
  unfold keepsL at this
  rw [Bool.and_eq_true] at this
  exact this.1
 have hK : ∀ w j oj, l0.toArray[j]? = some oj → listed.getD j true = false → j ≠ k → (roads md l0.toArray k).contains j = true ∨ ∀ w', (F j = true → I w') → I w → I w' := fun w j oj hj hl hjk => by
  cases hF : F j with
  | true => exact .inr fun w' h _ => h rfl
  | false => exact .inl (keepsL_spec hB.2 j oj hj hl hjk hF)
 have ho' : l0.toArray[k]? = some o := by simpa using ho
 exact wpAnyG_first (J := I) (fun j => (roads md l0.toArray k).contains j) (roadsOK_spec hR).1 ho' (Region.noSelect_spec hB.1.2) f listed a w (roadsOK_spec hR).2 (fun _ h _ => h) hK (Region.free_spec ho' hB.1.1.2) (by simpa using hB.1.1.1) (.inl ⟨hw, h1⟩) hI h
theorem og_pure {k f : Nat} {o : Oper} {listed : Array Bool} {a : Act} {w : World} (hB : ((Region.ready md l0.toArray listed).contains k && Region.free md l0.toArray listed k && Region.noSelect l0.toArray && !F k) = true) (ho : l0[k]? = some o)
 (hw : Region.wanted o (yielded l0.toArray a.tmps) = true) (v : Value) (h1 : ∀ w, (execOp a.eval o).run P w = .ok (.value v) w)
 (h : wpAnyF P md l0.toArray F I QN f (listed.setIfInBounds k true) (a.put o.dst v) w) : wpAnyF P md l0.toArray F I QN (f + 1) listed a w := by
 simp only [Bool.and_eq_true] at hB
 have hF : F k = false := by simpa using hB.2
 have ho' : l0.toArray[k]? = some o := by simpa using ho
 exact wpAnyG_first (J := fun _ => True) (fun _ => false) (fun _ _ _ h => by cases h) ho' (Region.noSelect_spec hB.1.2) f listed a w (fun _ h => by cases h) (fun _ _ h => by rw [hF] at h; cases h) (fun _ _ _ _ _ _ => .inr fun _ _ _ => trivial) (Region.free_spec ho' hB.1.1.2) (by simpa using hB.1.1.1) (.inl ⟨hw, fun w _ => h1 w⟩) trivial h
end
end
theorem own_typed {w : World} {base size n : Nat} {e : TypeId} {v : Value} {xs : List Value} (h : w.ownsRow base e size v n xs) : ∀ g, v.ownBlock = some g → ∃ cs, w.heap[g]? = some (.cells cs e (0, 0)) := by
 obtain ⟨-, hh⟩ := h
 intro g hg
 rcases hh with ⟨rfl, -⟩ | ⟨k, cap, cur, rfl, -, hk, -⟩
 ·simp [Value.ownBlock] at hg
 ·have : k = g := by simpa [Value.ownBlock] using hg
  subst this
  exact ⟨_, hk⟩
theorem own_blk_ne {w : World} {B s n g : Nat} {e t : TypeId} {v : Value} {xs : List Value} {cs : Array Value} (h : w.ownsRow B e s v n xs) (hb : Blk w g t cs) (hne : e ≠ t) : some g ≠ v.ownBlock := by
 intro hx
 obtain ⟨ds, h3⟩ := own_typed h g hx.symm
 unfold Blk at hb
 rw [h3] at hb
 injection hb with hb
 injection hb with _ hb
 exact hne hb
abbrev Four := Int × Int × Int × Int
def turnRow (s : Four → Int) (t : Int → Int → Int → Four) (a b c : List Int) : Nat → List Int
 | 0 => []
 | k + 1 => turnRow s t a b c k ++ [s (t (a.getD k 0) (b.getD k 0) (c.getD k 0))]
def turnZ (t : Int → Int → Int → Four) (L : List (List Int)) : List (List Int) :=
 match L with
 | [a, b, c] => [turnRow (·.1) t a b c a.length, turnRow (·.2.1) t a b c a.length, turnRow (·.2.2.1) t a b c a.length]
 | _ => L
def part64 (X : List Int) (k : Nat) : List Int := (X.drop (k * 64)).take 64
def cutN (wd hi : Nat) : Nat := (wd + 7) / 8 * ((hi + 7) / 8)
def jidx (wd y x : Nat) : Nat := (y / 8 * ((wd + 7) / 8) + x / 8) * 64 + (y % 8 * 8 + x % 8)
def joinAt (Z : List Int) (wd y x : Nat) : Int := clampZ (Z.getD (jidx wd y x) 0 + 128) 0 255
def joinZ (Z : List Int) (wd hi : Nat) : List Int := (List.range (wd * hi)).map fun p => joinAt Z wd (p / wd) (p % wd)
set_option maxRecDepth 20000
def mrow (m : List Int) (i : Nat) : List Int := (m.drop (i * 4)).take 4
def msum (m l : List Int) (i : Nat) (k : Nat) : Int := (mrow m i).getD 3 0 + (List.zipWith (· * ·) ((mrow m i).take k) (l.take k)).sum
def mval (m l : List Int) (i : Nat) : Int := clampZ (rnd (msum m l i 3) 65536) 0 255
def threeZ (m l : List Int) : Int × Int × Int × Int := if allIn l 0 255 then (mval m l 0, mval m l 1, mval m l 2, 0) else (0, 0, 0, 1)
set_option maxRecDepth 20000
def frM : List Int := [65536, 0, 91881, -11760768, 65536, -22554, -46802, 8877568, 65536, 116130, 0, -14864640]
def sumTo : Nat → (Nat → Int) → Int
 | 0, _ => 0
 | n + 1, f => sumTo n f + f n
def alongAt (C : Nat → Nat → Int) (b : List Int) (i row k : Nat) : Int := sumTo k (fun k => b.getD (8 * row + k) 0 * C i k)
def alongZ (C : Nat → Nat → Int) (b : List Int) : List Int := (List.range 64).map fun m => alongAt C b (m / 8) (m % 8) 8
def wl : List Int := [4096, 4017, 3784, 3406, 2896, 2276, 1567, 799, 0, -799, -1567, -2276, -2896, -3406, -3784, -4017, -4096, -4017, -3784, -3406, -2896, -2276, -1567, -799, 0, 799, 1567, 2276, 2896, 3406, 3784, 4017]
def wv (k : Nat) : Int := wl.getD k 0
def basisZ (u x : Nat) : Int := if u = 0 then 2896 else wv (u * (2 * x + 1) % 32)
def roundF (n : Int) : Int := rnd n 67108864
def waveL (C : Nat → Nat → Int) (zs : List Int) : List Int := (alongZ C (alongZ C zs)).map roundF
def waveR (C : Nat → Nat → Int) (zs : List Int) : List Int × Int := if allIn zs (-40000) 40000 then (waveL C zs, 0) else (zeros64, 1)
def frC (i k : Nat) : Int := basisZ k i
def upF (n d : Int) : Int := clampZ (n * d) (-40000) 40000
def picV (wd hi : Int) (v : Value) : Array Value := #[.int .i64 wd, .int .i64 hi, v]
theorem picV_size (wd hi : Int) (v : Value) : (picV wd hi v).size = 3 := rfl
theorem sizePic : (Tryz.prog.info? 31).map (·.size) = some 3 := by kernel_rfl
def tfrom : Int → Int → Int → Four := fun y u v => threeZ frM [y, u, v]
def clampL (zs : List Int) : List Int := zs.map fun z => clampZ z (-40000) 40000
def shB (b q : List Int) : List Int := clampL (waveR frC (bothZ upF b q 2047).1).1
def mapS (q X : List Int) : Nat → List Int
 | 0 => []
 | k + 1 => mapS q X k ++ shB (part64 X k) q
def sect (X : List Int) (n k : Nat) : List Int := (X.drop (k * n * 64)).take (n * 64)
def planeS (q X : List Int) (a b k : Nat) : List Int := joinZ (mapS q (sect X (cutN a b) k) (cutN a b)) a b
def planesZ (q X : List Int) (a b p : Nat) : List (List Int) := (List.range p).map (planeS q X a b)
def showZ (q X : List Int) (a b p : Nat) : List (List Int) := turnZ tfrom (planesZ q X a b p)
theorem built0PicS : Tryz.prog.built 31 [] = some (picV 0 0 (.slice none 0 0)) := by
 show _ = _
 kernel_rfl
theorem zeroPicS : (Tryz.prog.info? 31).bind (·.zero) = some (.agg (picV 0 0 (.slice none 0 0))) := by kernel_rfl
theorem pic_one (a b : Int) (A : Option Addr) (n c : Nat) : (picV a b (.slice A n c)).all (·.oneCell') = true := by simp [picV, Value.oneCell']
theorem fwithin_any (n lo hi : Int) (w : World) :
 Calls Tryz.prog 108 #[.int .i64 n, .int .i64 lo, .int .i64 hi] w fun e w' => e = .returned (.bool (inB n lo hi)) ∧ w = w' := by
 by_cases h : lo ≤ n
 ·have h' : decide (lo ≤ n) = true := by simpa using h
  have e : inB n lo hi = decide (n ≤ hi) := by rw [Bool.eq_iff_iff, inB_iff]; simp; omega
  rw [e]; clear e
  go_enter Tryz.func108, Tryz.ntmps108
  go_wp2
  go_ret
  exact ⟨rfl, rfl⟩
 ·have h' : decide (lo ≤ n) = false := by simpa using h
  have e : inB n lo hi = false := inB_not.2 (by omega)
  rw [e]; clear e
  go_enter Tryz.func108, Tryz.ntmps108
  go_wp2
  go_ret
  exact ⟨rfl, rfl⟩
set_option maxRecDepth 20000 in
set_option maxHeartbeats 4000000 in
theorem fcheck_na (wd hi pt ev : Int) (qs : List Int) (t1 t2 : List Value) (sd : Value) (w : World) (hq : qs.length = 64) (h1 : t1.length = 17) (h2 : t2.length = 17) (k1 : inB wd 1 64 = false) :
 Calls Tryz.prog 50 #[.agg (fileL wd hi pt qs t1 t2 ev sd).toArray] w fun e w' => e = .returned (.int .i64 1) ∧ Ext w w' := by
 have HF := hid_ (fun W g (hb : Blk W g 47 (fileL wd hi pt qs t1 t2 ev sd).toArray) => fileB hb hq h1 h2)
 have W1 := hid_ (fun W => fwithin_any wd 1 64 W)
 have W2 := hid_ (fun W => fwithin_any hi 1 64 W)
 have W3 := hid_ (fun W => fwithin_any ev 0 100 W)
 generalize (fileL wd hi pt qs t1 t2 ev sd).toArray = fv at *
 generalize inB wd 1 64 = b1 at *
 generalize inB hi 1 64 = b2 at *
 generalize inB ev 0 100 = b3 at *
 subst k1
 go_enter Tryz.func50, Tryz.ntmps50
 go_wp2_with (first
  | (refine wBox rfl 47 (.tmp 0) rfl fv rfl ?_; intro w1 g hb1 hx1 hg; obtain ⟨c0, c1, c2, -, -, -, -, c101, -⟩ := HF.out _ _ hb1)
  | (go_at_call 108; (with_reducible refine (W1.out _).mono ?_); rintro e w2 ⟨rfl, rfl⟩)
  | (go_at_call 108; (with_reducible refine (W2.out _).mono ?_); rintro e w2 ⟨rfl, rfl⟩)
  | (go_at_call 108; (with_reducible refine (W3.out _).mono ?_); rintro e w2 ⟨rfl, rfl⟩))
 go_ret
 exact ⟨rfl, hx1⟩
set_option maxRecDepth 20000 in
set_option maxHeartbeats 4000000 in
theorem fcheck_nb (wd hi pt ev : Int) (qs : List Int) (t1 t2 : List Value) (sd : Value) (w : World) (hq : qs.length = 64) (h1 : t1.length = 17) (h2 : t2.length = 17) (k1 : inB wd 1 64 = true) (k2 : inB hi 1 64 = false) :
 Calls Tryz.prog 50 #[.agg (fileL wd hi pt qs t1 t2 ev sd).toArray] w fun e w' => e = .returned (.int .i64 1) ∧ Ext w w' := by
 have HF := hid_ (fun W g (hb : Blk W g 47 (fileL wd hi pt qs t1 t2 ev sd).toArray) => fileB hb hq h1 h2)
 have W1 := hid_ (fun W => fwithin_any wd 1 64 W)
 have W2 := hid_ (fun W => fwithin_any hi 1 64 W)
 have W3 := hid_ (fun W => fwithin_any ev 0 100 W)
 generalize (fileL wd hi pt qs t1 t2 ev sd).toArray = fv at *
 generalize inB wd 1 64 = b1 at *
 generalize inB hi 1 64 = b2 at *
 generalize inB ev 0 100 = b3 at *
 subst k1 k2
 go_enter Tryz.func50, Tryz.ntmps50
 go_wp2_with (first
  | (refine wBox rfl 47 (.tmp 0) rfl fv rfl ?_; intro w1 g hb1 hx1 hg; obtain ⟨c0, c1, c2, -, -, -, -, c101, -⟩ := HF.out _ _ hb1)
  | (go_at_call 108; (with_reducible refine (W1.out _).mono ?_); rintro e w2 ⟨rfl, rfl⟩)
  | (go_at_call 108; (with_reducible refine (W2.out _).mono ?_); rintro e w2 ⟨rfl, rfl⟩)
  | (go_at_call 108; (with_reducible refine (W3.out _).mono ?_); rintro e w2 ⟨rfl, rfl⟩))
 go_ret
 exact ⟨rfl, hx1⟩
set_option maxRecDepth 20000 in
set_option maxHeartbeats 4000000 in
theorem fcheck_nc (wd hi pt ev : Int) (qs : List Int) (t1 t2 : List Value) (sd : Value) (w : World) (hq : qs.length = 64) (h1 : t1.length = 17) (h2 : t2.length = 17) (k1 : inB wd 1 64 = true) (k2 : inB hi 1 64 = true) (p1 : (pt != 1) = true) (p2 : (pt != 3) = true) :
 Calls Tryz.prog 50 #[.agg (fileL wd hi pt qs t1 t2 ev sd).toArray] w fun e w' => e = .returned (.int .i64 1) ∧ Ext w w' := by
 have HF := hid_ (fun W g (hb : Blk W g 47 (fileL wd hi pt qs t1 t2 ev sd).toArray) => fileB hb hq h1 h2)
 have W1 := hid_ (fun W => fwithin_any wd 1 64 W)
 have W2 := hid_ (fun W => fwithin_any hi 1 64 W)
 have W3 := hid_ (fun W => fwithin_any ev 0 100 W)
 generalize (fileL wd hi pt qs t1 t2 ev sd).toArray = fv at *
 generalize inB wd 1 64 = b1 at *
 generalize inB hi 1 64 = b2 at *
 generalize inB ev 0 100 = b3 at *
 subst k1 k2
 go_enter Tryz.func50, Tryz.ntmps50
 go_wp2_with (first
  | (refine wBox rfl 47 (.tmp 0) rfl fv rfl ?_; intro w1 g hb1 hx1 hg; obtain ⟨c0, c1, c2, -, -, -, -, c101, -⟩ := HF.out _ _ hb1)
  | (go_at_call 108; (with_reducible refine (W1.out _).mono ?_); rintro e w2 ⟨rfl, rfl⟩)
  | (go_at_call 108; (with_reducible refine (W2.out _).mono ?_); rintro e w2 ⟨rfl, rfl⟩)
  | (go_at_call 108; (with_reducible refine (W3.out _).mono ?_); rintro e w2 ⟨rfl, rfl⟩))
 go_ret
 exact ⟨rfl, hx1⟩
set_option maxRecDepth 20000 in
set_option maxHeartbeats 4000000 in
theorem fcheck_nd (wd hi ev : Int) (qs : List Int) (t1 t2 : List Value) (sd : Value) (w : World) (hq : qs.length = 64) (h1 : t1.length = 17) (h2 : t2.length = 17) (k1 : inB wd 1 64 = true) (k2 : inB hi 1 64 = true) (k3 : inB ev 0 100 = false) :
 Calls Tryz.prog 50 #[.agg (fileL wd hi 1 qs t1 t2 ev sd).toArray] w fun e w' => e = .returned (.int .i64 1) ∧ Ext w w' := by
 have HF := hid_ (fun W g (hb : Blk W g 47 (fileL wd hi 1 qs t1 t2 ev sd).toArray) => fileB hb hq h1 h2)
 have W1 := hid_ (fun W => fwithin_any wd 1 64 W)
 have W2 := hid_ (fun W => fwithin_any hi 1 64 W)
 have W3 := hid_ (fun W => fwithin_any ev 0 100 W)
 generalize (fileL wd hi 1 qs t1 t2 ev sd).toArray = fv at *
 generalize inB wd 1 64 = b1 at *
 generalize inB hi 1 64 = b2 at *
 generalize inB ev 0 100 = b3 at *
 subst k1 k2 k3
 go_enter Tryz.func50, Tryz.ntmps50
 go_wp2_with (first
  | (refine wBox rfl 47 (.tmp 0) rfl fv rfl ?_; intro w1 g hb1 hx1 hg; obtain ⟨c0, c1, c2, -, -, -, -, c101, -⟩ := HF.out _ _ hb1)
  | (go_at_call 108; (with_reducible refine (W1.out _).mono ?_); rintro e w2 ⟨rfl, rfl⟩)
  | (go_at_call 108; (with_reducible refine (W2.out _).mono ?_); rintro e w2 ⟨rfl, rfl⟩)
  | (go_at_call 108; (with_reducible refine (W3.out _).mono ?_); rintro e w2 ⟨rfl, rfl⟩))
 go_ret
 exact ⟨rfl, hx1⟩
set_option maxRecDepth 20000 in
set_option maxHeartbeats 4000000 in
theorem fcheck_ne (wd hi ev : Int) (qs : List Int) (t1 t2 : List Value) (sd : Value) (w : World) (hq : qs.length = 64) (h1 : t1.length = 17) (h2 : t2.length = 17) (k1 : inB wd 1 64 = true) (k2 : inB hi 1 64 = true) (k3 : inB ev 0 100 = false) :
 Calls Tryz.prog 50 #[.agg (fileL wd hi 3 qs t1 t2 ev sd).toArray] w fun e w' => e = .returned (.int .i64 1) ∧ Ext w w' := by
 have HF := hid_ (fun W g (hb : Blk W g 47 (fileL wd hi 3 qs t1 t2 ev sd).toArray) => fileB hb hq h1 h2)
 have W1 := hid_ (fun W => fwithin_any wd 1 64 W)
 have W2 := hid_ (fun W => fwithin_any hi 1 64 W)
 have W3 := hid_ (fun W => fwithin_any ev 0 100 W)
 generalize (fileL wd hi 3 qs t1 t2 ev sd).toArray = fv at *
 generalize inB wd 1 64 = b1 at *
 generalize inB hi 1 64 = b2 at *
 generalize inB ev 0 100 = b3 at *
 subst k1 k2 k3
 go_enter Tryz.func50, Tryz.ntmps50
 go_wp2_with (first
  | (refine wBox rfl 47 (.tmp 0) rfl fv rfl ?_; intro w1 g hb1 hx1 hg; obtain ⟨c0, c1, c2, -, -, -, -, c101, -⟩ := HF.out _ _ hb1)
  | (go_at_call 108; (with_reducible refine (W1.out _).mono ?_); rintro e w2 ⟨rfl, rfl⟩)
  | (go_at_call 108; (with_reducible refine (W2.out _).mono ?_); rintro e w2 ⟨rfl, rfl⟩)
  | (go_at_call 108; (with_reducible refine (W3.out _).mono ?_); rintro e w2 ⟨rfl, rfl⟩))
 go_ret
 exact ⟨rfl, hx1⟩
theorem fcheck_no (wd hi pt ev : Int) (qs : List Int) (t1 t2 : List Value) (sd : Value) (w : World) (hq : qs.length = 64) (h1 : t1.length = 17) (h2 : t2.length = 17) (h : argsOK wd hi pt ev = false) :
 Calls Tryz.prog 50 #[.agg (fileL wd hi pt qs t1 t2 ev sd).toArray] w fun e w' => e = .returned (.int .i64 1) ∧ Ext w w' := by
 unfold argsOK at h
 cases k1 : inB wd 1 64 with
 | false => exact fcheck_na wd hi pt ev qs t1 t2 sd w hq h1 h2 k1
 | true =>
   cases k2 : inB hi 1 64 with
   | false => exact fcheck_nb wd hi pt ev qs t1 t2 sd w hq h1 h2 k1 k2
   | true =>
     by_cases p1 : pt = 1
     ·subst p1
      cases k3 : inB ev 0 100 with
      | false => exact fcheck_nd wd hi ev qs t1 t2 sd w hq h1 h2 k1 k2 k3
      | true => rw [k1, k2, k3] at h; cases h
     ·by_cases p3 : pt = 3
      ·subst p3
       cases k3 : inB ev 0 100 with
       | false => exact fcheck_ne wd hi ev qs t1 t2 sd w hq h1 h2 k1 k2 k3
       | true => rw [k1, k2, k3] at h; cases h
      ·exact fcheck_nc wd hi pt ev qs t1 t2 sd w hq h1 h2 k1 k2 (by simpa using p1) (by simpa using p3)
set_option maxRecDepth 20000 in
set_option maxHeartbeats 4000000 in
theorem fcheck_yf (pt : Int) (hpt : pt = 1 ∨ pt = 3) (wd hi ev : Int) (qs : List Int) (t1 t2 : List Value) (A : Option Addr) (n c : Nat) (z1 z2 : Int) (w : World) (hq : qs.length = 64) (h1 : t1.length = 17) (h2 : t2.length = 17)
 (k1 : inB wd 1 64 = true) (k2 : inB hi 1 64 = true) (k3 : inB ev 0 100 = true) (kq : allIn qs 1 255 = false) :
 Calls Tryz.prog 50 #[.agg (fileL wd hi pt qs t1 t2 ev (.slice A n c)).toArray] w fun e w' => e = .returned (.int .i64 (1)) ∧ Ext w w' := by
 have HF := hid_ (fun W g (hb : Blk W g 47 (fileL wd hi pt qs t1 t2 ev (.slice A n c)).toArray) => fileB hb hq h1 h2)
 have W1 := hid_ (fun W => fwithin_any wd 1 64 W)
 have W2 := hid_ (fun W => fwithin_any hi 1 64 W)
 have W3 := hid_ (fun W => fwithin_any ev 0 100 W)
 have HQ : Hid (∀ W, Calls Tryz.prog 15 #[.agg (ints qs).toArray] W fun e w' => e = .returned (.int .i64 1) ∧ Ext W w') := hid_ (fun W => by have h := qcheck_any qs W hq; rw [kq] at h; exact h)
 clear kq
 have hql := hid_ ((ints_len qs).trans hq)
 have hl1 := hid_ h1
 have hl2 := hid_ h2
 clear hq h1 h2
 generalize (fileL wd hi pt qs t1 t2 ev (.slice A n c)).toArray = fv at *
 generalize inB wd 1 64 = b1 at *
 generalize inB hi 1 64 = b2 at *
 generalize inB ev 0 100 = b3 at *
 subst k1 k2 k3
 rcases hpt with rfl | rfl
 all_goals
  go_enter Tryz.func50, Tryz.ntmps50
  go_wp2_with (first
   | (refine wBox rfl 47 (.tmp 0) rfl fv rfl ?_; intro w1 g hb1 hx1 hg; have hf1 := HF.out _ _ hb1; have c0 := hf1.c0; have c1 := hf1.c1; have c2 := hf1.c2; have c101 := hf1.c101)
   | (go_at_call 108; (with_reducible refine (W1.out _).mono ?_); rintro e w2 ⟨rfl, rfl⟩)
   | (go_at_call 108; (with_reducible refine (W2.out _).mono ?_); rintro e w2 ⟨rfl, rfl⟩)
   | (go_at_call 108; (with_reducible refine (W3.out _).mono ?_); rintro e w2 ⟨rfl, rfl⟩)
   | (refine wpList_load_mid rfl 33 (.tmp 33) rfl g 3 rfl (ints qs) _ hf1.q Tryz.underlying33 rfl (by rw [hql.out]; exact size48) ?_)
   | (go_at_call 15; (with_reducible refine (HQ.out _).mono ?_); rintro e w2 ⟨rfl, hx2⟩; have hb2 := hb1.ext hx2; have hf2 := HF.out _ _ hb2))
  go_ret
  exact ⟨rfl, hx1.trans hx2⟩
set_option maxRecDepth 20000 in
set_option maxHeartbeats 4000000 in
theorem fcheck_yt (pt : Int) (hpt : pt = 1 ∨ pt = 3) (wd hi ev : Int) (qs : List Int) (t1 t2 : List Value) (A : Option Addr) (n c : Nat) (z1 z2 : Int) (w : World) (hq : qs.length = 64) (h1 : t1.length = 17) (h2 : t2.length = 17)
 (k1 : inB wd 1 64 = true) (k2 : inB hi 1 64 = true) (k3 : inB ev 0 100 = true) (kq : allIn qs 1 255 = true) (o1 : t1.toArray.all (·.oneCell') = true) (o2 : t2.toArray.all (·.oneCell') = true)
 (C1 : ∀ W, Ext w W → Calls Tryz.prog 102 #[.agg t1.toArray] W fun e W' => e = .returned (.int .i64 z1) ∧ Ext W W')
 (C2 : ∀ W, Ext w W → Calls Tryz.prog 102 #[.agg t2.toArray] W fun e W' => e = .returned (.int .i64 z2) ∧ Ext W W') :
 Calls Tryz.prog 50 #[.agg (fileL wd hi pt qs t1 t2 ev (.slice A n c)).toArray] w fun e w' => e = .returned (.int .i64 (if z1 = 0 then (if z2 = 0 then (if 90000 < n then 2 else 0) else z2) else z1)) ∧ Ext w w' := by
 have HF := hid_ (fun W g (hb : Blk W g 47 (fileL wd hi pt qs t1 t2 ev (.slice A n c)).toArray) => fileB hb hq h1 h2)
 have W1 := hid_ (fun W => fwithin_any wd 1 64 W)
 have W2 := hid_ (fun W => fwithin_any hi 1 64 W)
 have W3 := hid_ (fun W => fwithin_any ev 0 100 W)
 have HQ : Hid (∀ W, Calls Tryz.prog 15 #[.agg (ints qs).toArray] W fun e w' => e = .returned (.int .i64 0) ∧ Ext W w') := hid_ (fun W => by have h := qcheck_any qs W hq; rw [kq] at h; exact h)
 clear kq
 have hql := hid_ ((ints_len qs).trans hq)
 have hl1 := hid_ h1
 have hl2 := hid_ h2
 have HB2 := hid_ (built2 t1 t2 h1 h2)
 have HRT := hid_ (fun W g (hb : Blk W g 42 (t1 ++ t2).toArray) => range_two h1 hb)
 have hs1 : Hid (t1.toArray.size = 17) := hid_ (by simpa using h1)
 have hs2 : Hid (t2.toArray.size = 17) := hid_ (by simpa using h2)
 have hz17 : Hid ((ints (List.replicate 16 0) ++ [Value.slice none 0 0]).toArray.size = 17) := hid_ (by simp [ints])
 have hl3 : Hid ((t1 ++ t2).length = 34) := hid_ (by simp [h1, h2])
 have HO1 := hid_ o1
 have HO2 := hid_ o2
 have HC1 := hid_ C1
 have HC2 := hid_ C2
 clear o1 o2 C1 C2
 generalize hR : (if z1 = 0 then (if z2 = 0 then (if 90000 < n then (2 : Int) else 0) else z2) else z1) = R
 have HR := hid_ hR
 clear hR
 clear hq h1 h2
 generalize (fileL wd hi pt qs t1 t2 ev (.slice A n c)).toArray = fv at *
 generalize inB wd 1 64 = b1 at *
 generalize inB hi 1 64 = b2 at *
 generalize inB ev 0 100 = b3 at *
 subst k1 k2 k3
 rcases hpt with rfl | rfl
 all_goals
  go_enter Tryz.func50, Tryz.ntmps50
  go_wp2_with (first
   | (refine wBox rfl 47 (.tmp 0) rfl fv rfl ?_; intro w1 g hb1 hx1 hg; have hf1 := HF.out _ _ hb1; have c0 := hf1.c0; have c1 := hf1.c1; have c2 := hf1.c2; have c101 := hf1.c101)
   | (go_at_call 108; (with_reducible refine (W1.out _).mono ?_); rintro e w2 ⟨rfl, rfl⟩)
   | (go_at_call 108; (with_reducible refine (W2.out _).mono ?_); rintro e w2 ⟨rfl, rfl⟩)
   | (go_at_call 108; (with_reducible refine (W3.out _).mono ?_); rintro e w2 ⟨rfl, rfl⟩)
   | (refine wpList_load_mid rfl 33 (.tmp 33) rfl g 3 rfl (ints qs) _ hf1.q Tryz.underlying33 rfl (by rw [hql.out]; exact size48) ?_)
   | (go_at_call 15; (with_reducible refine (HQ.out _).mono ?_); rintro e w2 ⟨rfl, hx2⟩; have hb2 := hb1.ext hx2; have hf2 := HF.out _ _ hb2)
   | (refine wpList_load_mid rfl 42 (.tmp 40) rfl g 67 rfl t1 _ hf2.ta Tryz.underlying42 rfl (by rw [hl1.out]; exact sizeTbl) ?_)
   | (refine wpList_load_mid rfl 42 (.tmp 43) rfl g 84 rfl t2 _ hf2.tb Tryz.underlying42 rfl (by rw [hl2.out]; exact sizeTbl) ?_)
   | (refine Go.Great.wpList_buildSliceTo rfl 115 42 2 _ rfl _ rfl (some 45) rfl Tryz.underlying115 _ (by simp [Act.eval]; exact HB2.out) ?_))
  have hbn0 := Blk.new w2 42 (t1 ++ t2).toArray
  have hb3 := hb2.alloc (.cells (t1 ++ t2).toArray 42)
  have hx3 := (hx1.trans hx2).alloc (.cells (t1 ++ t2).toArray 42)
  clear hb1 hb2 hf1 hf2 hx1 hx2 c0 c1 c2 c101
  go_loopw [47] (fun i wr => ∃ k : Nat, k ≤ 2 ∧ i = .int .i64 (k : Int) ∧ (1 ≤ k → z1 = 0) ∧ (2 ≤ k → z2 = 0) ∧ Blk wr g 47 fv ∧ Blk wr w2.heap.size 42 (t1 ++ t2).toArray ∧ Ext w wr) (fun i _ => 2 - (intOf i).toNat)
  case atStart => exact ⟨0, by omega, rfl, fun h => absurd h (by omega), fun h => absurd h (by omega), hb3, hbn0, hx3⟩
  case round =>
   clear hb3 hbn0 hx3
   obtain ⟨k, hk, rfl, e1, e2, hb, hbn, hx⟩ := hrel
   rcases (by omega : k = 0 ∨ k = 1 ∨ k = 2) with rfl | rfl | rfl
   ·have hr := (HRT.out _ _ hbn).1
    by_cases hz : z1 = 0
    ·subst hz
     go_wp2_with (first
      | (refine wpList_load_mid rfl 42 (.tmp 49) rfl _ 0 rfl t1 _ hr Tryz.underlying42 rfl (by rw [hl1.out]; exact sizeTbl) ?_)
      | (refine wAlo' rfl (some 5) rfl 42 rfl _ zeroTbl ?_; intro w4 ga hba4 hx4 hga)
      | (refine wStB rfl 42 (.tmp 5) (.tmp 50) rfl _ _ rfl rfl hba4 17 sizeTbl hs1.out hz17.out HO1.out ?_; intro w5 hba5 hg5; have hx5 := (hx.trans hx4).grown hg5 (by have := hx.size; omega))
      | (refine wLdB rfl 42 (.tmp 5) rfl _ rfl hba5 _ Tryz.underlying42 rfl 17 sizeTbl hs1.out ?_)
      | (go_at_call 102; (with_reducible refine (HC1.out _ hx5).mono ?_); rintro e w6 ⟨rfl, hx6⟩))
     go_roundw
     case rel => exact ⟨1, by omega, by go_num, by simp, fun h => absurd h (by omega), ((hb.ext hx4).grown hg5 (by have := hb.lt; simp; omega)).ext hx6, ((hbn.ext hx4).grown hg5 (by have := hbn.lt; simp; omega)).ext hx6, hx5.trans hx6⟩
     case measure => simp [intOf]
    ·have hz1 : (z1 != 0) = true := by simpa using hz
     have HZ := hid_ hz
     clear hz
     go_wp2_with (first
      | (refine wpList_load_mid rfl 42 (.tmp 49) rfl _ 0 rfl t1 _ hr Tryz.underlying42 rfl (by rw [hl1.out]; exact sizeTbl) ?_)
      | (refine wAlo' rfl (some 5) rfl 42 rfl _ zeroTbl ?_; intro w4 ga hba4 hx4 hga)
      | (refine wStB rfl 42 (.tmp 5) (.tmp 50) rfl _ _ rfl rfl hba4 17 sizeTbl hs1.out hz17.out HO1.out ?_; intro w5 hba5 hg5; have hx5 := (hx.trans hx4).grown hg5 (by have := hx.size; omega))
      | (refine wLdB rfl 42 (.tmp 5) rfl _ rfl hba5 _ Tryz.underlying42 rfl 17 sizeTbl hs1.out ?_)
      | (go_at_call 102; (with_reducible refine (HC1.out _ hx5).mono ?_); rintro e w6 ⟨rfl, hx6⟩))
     go_ret
     exact ⟨by rw [← HR.out]; simp [HZ.out], hx5.trans hx6⟩
   ·have hr := (HRT.out _ _ hbn).2
    by_cases hz : z2 = 0
    ·subst hz
     go_wp2_with (first
      | (refine wpList_load_mid rfl 42 (.tmp 49) rfl _ 17 rfl t2 _ hr Tryz.underlying42 rfl (by rw [hl2.out]; exact sizeTbl) ?_)
      | (refine wAlo' rfl (some 5) rfl 42 rfl _ zeroTbl ?_; intro w4 ga hba4 hx4 hga)
      | (refine wStB rfl 42 (.tmp 5) (.tmp 50) rfl _ _ rfl rfl hba4 17 sizeTbl hs2.out hz17.out HO2.out ?_; intro w5 hba5 hg5; have hx5 := (hx.trans hx4).grown hg5 (by have := hx.size; omega))
      | (refine wLdB rfl 42 (.tmp 5) rfl _ rfl hba5 _ Tryz.underlying42 rfl 17 sizeTbl hs2.out ?_)
      | (go_at_call 102; (with_reducible refine (HC2.out _ hx5).mono ?_); rintro e w6 ⟨rfl, hx6⟩))
     go_roundw
     case rel => exact ⟨2, by omega, by go_num, fun _ => e1 (by omega), by simp, ((hb.ext hx4).grown hg5 (by have := hb.lt; simp; omega)).ext hx6, ((hbn.ext hx4).grown hg5 (by have := hbn.lt; simp; omega)).ext hx6, hx5.trans hx6⟩
     case measure => simp [intOf]
    ·have hz1 : (z2 != 0) = true := by simpa using hz
     have HZ := hid_ hz
     clear hz
     go_wp2_with (first
      | (refine wpList_load_mid rfl 42 (.tmp 49) rfl _ 17 rfl t2 _ hr Tryz.underlying42 rfl (by rw [hl2.out]; exact sizeTbl) ?_)
      | (refine wAlo' rfl (some 5) rfl 42 rfl _ zeroTbl ?_; intro w4 ga hba4 hx4 hga)
      | (refine wStB rfl 42 (.tmp 5) (.tmp 50) rfl _ _ rfl rfl hba4 17 sizeTbl hs2.out hz17.out HO2.out ?_; intro w5 hba5 hg5; have hx5 := (hx.trans hx4).grown hg5 (by have := hx.size; omega))
      | (refine wLdB rfl 42 (.tmp 5) rfl _ rfl hba5 _ Tryz.underlying42 rfl 17 sizeTbl hs2.out ?_)
      | (go_at_call 102; (with_reducible refine (HC2.out _ hx5).mono ?_); rintro e w6 ⟨rfl, hx6⟩))
     go_ret
     exact ⟨by rw [← HR.out]; simp [HZ.out, e1 (by omega)], hx5.trans hx6⟩
   ·have c102 := (HF.out _ _ hb).c102
    have Z1 := hid_ (e1 (by omega))
    have Z2 := hid_ (e2 (by omega))
    clear e1 e2
    by_cases hn : 90000 < n
    ·have hn' : decide ((90000 : Int) < (n : Int)) = true := by simp; omega
     go_wp2_with fail
     go_ret
     have h2 : R = 2 := by rw [← HR.out, if_pos Z1.out, if_pos Z2.out, if_pos hn]
     subst h2
     exact ⟨rfl, hx⟩
    ·have hn' : decide ((90000 : Int) < (n : Int)) = false := by simp; omega
     go_wp2_with fail
     go_ret
     have h2 : R = 0 := by rw [← HR.out, if_pos Z1.out, if_pos Z2.out, if_neg hn]
     subst h2
     exact ⟨rfl, hx⟩
end Go.Proofs.YtkggcjdlpendfaaGreatDoor
