/- Contracts for the law ScanDecodesUptoCard, part 18: what the functions that it reaches answer, for all arguments that the theorems name. -/
import Derived.Test.YtgmddhljgfbibaaGreatDoorMScanDecodesUptoCard17
import Derived.Test.YtgmddhljgfbibaaGreatDoorMScanDecodesUptoCard6
import Derived.Great.Walk
import Derived.Test.YtgmddhljgfbibaaGreatDoorMScanDecodesUptoCard3
import Derived.Test.YtgmddhljgfbibaaGreatDoorMScanDecodesUptoCard2
import Derived.Test.YtgmddhljgfbibaaGreatDoorMScanDecodesUptoCard5
import Derived.Test.YtgmddhljgfbibaaGreatDoorMScanDecodesUptoCard12
import Derived.Test.YtgmddhljgfbibaaGreatDoorMScanDecodesUptoCard10
/- The closure of seg.Encode as one that eats tokens. -/
namespace Go.Proofs.YtgmddhljgfbibaaGreatDoor
set_option linter.unusedVariables false
set_option linter.unusedSimpArgs false
open Go.RowKit
/-- one more token's digits -/
def encStep (T1 T2 : List Tok) (L : List Bool) (t : Tok) (b : Bool) : Int × List Bool :=
  match findT (if b then T1 else T2) t.1 with
  | none => (5, L)
  | some _ => (0, L ++ bitsT (if b then T1 else T2) t.1 ++ digs t.2.2.toNat t.2.1.toNat)
theorem encStep_len (T1 T2 : List Tok) (L : List Bool) (t : Tok) (b : Bool) : L.length ≤ (encStep T1 T2 L t b).2.length := by
  unfold encStep
  split
  · exact Nat.le_refl _
  · simp only [List.length_append]; omega
theorem encGo_len (T1 T2 : List Tok) : ∀ (l : List (Tok × Bool)) (L : List Bool), L.length ≤ (eatGo (encStep T1 T2) l L).2.length
  | [], L => Nat.le_refl _
  | (t, b) :: r, L => by
    have h1 := encStep_len T1 T2 L t b
    by_cases h0 : (encStep T1 T2 L t b).1 = 0
    · rw [eatGo_ok h0]; exact Nat.le_trans h1 (encGo_len T1 T2 r _)
    · rw [eatGo_err h0]; exact h1
theorem encGo_bd {T1 T2 : List Tok} (f1 : FitT T1) (f2 : FitT T2) : ∀ (l : List (Tok × Bool)) (L : List Bool), (∀ t ∈ l, tokWf t.1) → (eatGo (encStep T1 T2) l L).2.length ≤ L.length + 28 * l.length
  | [], L, _ => by simp [eatGo]
  | (t, b) :: r, L, h => by
    have hw := h (t, b) (by simp)
    obtain ⟨-, -, w1, w2, -, -⟩ := hw
    dsimp only at w1 w2
    have h1 : (encStep T1 T2 L t b).2.length ≤ L.length + 28 := by
      unfold encStep
      split
      · simp
      · have h2 : (bitsT (if b then T1 else T2) t.1).length ≤ 16 := by
          cases b with
          | true => exact bitsT_len f1 _
          | false => exact bitsT_len f2 _
        simp only [List.length_append, digs_len]
        omega
    by_cases h0 : (encStep T1 T2 L t b).1 = 0
    · rw [eatGo_ok h0]
      have := encGo_bd f1 f2 r (encStep T1 T2 L t b).2 (fun u hu => h u (by simp [hu]))
      simp only [List.length_cons]
      omega
    · rw [eatGo_err h0]
      simp only [List.length_cons]
      omega
/-- a writer, the coders, and where the closure finds them; W0: before the writer was made -/
structure EncIn (pc pw gk gw gc1 gc2 : Nat) (T1 T2 : List Tok) (W0 W : World) (L : List Bool) (F : Nat → Prop) : Prop where
  p : Blk W0 pc 59 #[.pointer (some ⟨gk, 0, none⟩)]
  k : Blk W0 gk 103 #[.pointer (some ⟨gc1, 0, none⟩), .pointer (some ⟨gc2, 0, none⟩)]
  c1 : CoderS W0 gc1 T1
  c2 : CoderS W0 gc2 T2
  old : W0.heap.size ≤ gw
  b : Ext W0 W
  q : Blk W pw 91 #[.pointer (some ⟨gw, 0, none⟩)]
  r : ∃ r, WrS W gw L r ∧ ∀ x, F x ↔ x = gw ∨ r = some x
theorem EncIn.ext {pc pw gk gw gc1 gc2 : Nat} {T1 T2 : List Tok} {W0 W W' : World} {L : List Bool} {F : Nat → Prop} (h : EncIn pc pw gk gw gc1 gc2 T1 T2 W0 W L F) (hx : Ext W W') : EncIn pc pw gk gw gc1 gc2 T1 T2 W0 W' L F := by
  obtain ⟨r, hr, hF⟩ := h.r
  exact ⟨h.p, h.k, h.c1, h.c2, h.old, h.b.trans hx, h.q.ext hx, r, hr.ext hx, hF⟩
theorem own_blkE {w : World} {g base size n : Nat} {T e : TypeId} {cs : Array Value} {v : Value} {xs : List Value} (h : Blk w g T cs) (ho : w.ownsRow base e size v n xs) (hne : T ≠ e) : some g ≠ v.ownBlock := by
  obtain ⟨-, hh⟩ := ho
  rcases hh with ⟨rfl, -⟩ | ⟨k, cap, cur, rfl, -, hg, -⟩
  · simp [Value.ownBlock]
  · intro e1
    have : g = k := by simpa [Value.ownBlock] using e1
    subst this
    exact (h.ne_ (g' := g) (cs' := cur) hg hne) rfl
theorem wrs_ne {w : World} {g gw : Nat} {T : TypeId} {cs : Array Value} {L : List Bool} {r : Option Nat} (h : Blk w g T cs) (hw : WrS w gw L r) (h1 : T ≠ 94) (h2 : T ≠ 5) : g ≠ gw ∧ r ≠ some g := by
  obtain ⟨A, c, e1, hB, ho⟩ := hw
  refine ⟨h.ne_ (g' := gw) hB h1, fun e => ?_⟩
  have := own_blkE h ho h2
  rw [own_map, ← e1] at this
  exact this e.symm
theorem ptrW_ne : 91 ≠ 94 ∧ 91 ≠ 5 := by decide
theorem tokT_ne : 80 ≠ 94 ∧ 80 ≠ 5 := by decide
/-- the writer's blocks turned -/
theorem EncIn.put {pc pw gk gw gc1 gc2 : Nat} {T1 T2 : List Tok} {W0 W W' : World} {L L' : List Bool} {F : Nat → Prop} {r r' : Option Nat} (h : EncIn pc pw gk gw gc1 gc2 T1 T2 W0 W L F) (hr : WrS W gw L r) (hF : ∀ x, F x ↔ x = gw ∨ r = some x) (hW : WrS W' gw L' r') (hu : Upd (fun b => b = gw ∨ r = some b) W W') :
    EncIn pc pw gk gw gc1 gc2 T1 T2 W0 W' L' (fun x => x = gw ∨ r' = some x) := by
  have hn := wrs_ne h.q hr ptrW_ne.1 ptrW_ne.2
  refine ⟨h.p, h.k, h.c1, h.c2, h.old, hu.ext h.b (fun y hy => ?_), hu.blk h.q (fun e => ?_), r', hW, fun x => Iff.rfl⟩
  · have := h.old
    rcases hy with rfl | e
    · exact this
    · have := (hr.row y e).1; omega
  · rcases e with e | e
    · exact hn.1 e
    · exact hn.2 e
theorem run_loadK (W : World) (p q : Addr) (h : W.cell? p = some (.pointer (some q))) : (Instr.loadAt 59 (.pointer (some p))).run Tryz.prog W = .ok (.pointer (some q)) W := by
  go_simp
theorem run_loadW (W : World) (p q : Addr) (h : W.cell? p = some (.pointer (some q))) : (Instr.loadAt 91 (.pointer (some p))).run Tryz.prog W = .ok (.pointer (some q)) W := by
  go_simp
section
variable {o : Oper} {a : Act}
theorem ex_loadK {x : Operand} (ho : o.op = .load 59 x) {p q : Addr} (hx : a.eval x = .pointer (some p)) {w : World} (h : w.cell? p = some (.pointer (some q))) : (execOp a.eval o).run Tryz.prog w = .ok (.value (.pointer (some q))) w := by
  simp [execOp, ho, hx, run_loadK w p q h]
theorem ex_loadW {x : Operand} (ho : o.op = .load 91 x) {p q : Addr} (hx : a.eval x = .pointer (some p)) {w : World} (h : w.cell? p = some (.pointer (some q))) : (execOp a.eval o).run Tryz.prog w = .ok (.value (.pointer (some q))) w := by
  simp [execOp, ho, hx, run_loadW w p q h]
end
theorem of_any (gk gc1 gc2 : Nat) (b : Bool) (w : World) (h : Blk w gk 103 #[.pointer (some ⟨gc1, 0, none⟩), .pointer (some ⟨gc2, 0, none⟩)]) :
    Calls Tryz.prog 43 #[.pointer (some ⟨gk, 0, none⟩), .bool b] w fun e w' => e = .returned (.pointer (some ⟨if b then gc1 else gc2, 0, none⟩)) ∧ w = w' := by
  have c0 : w.cell? ⟨gk, 0, none⟩ = some (.pointer (some ⟨gc1, 0, none⟩)) := h.cell 0
  have c1 : w.cell? ⟨gk, 1, none⟩ = some (.pointer (some ⟨gc2, 0, none⟩)) := h.cell 1
  cases b with
  | true =>
    go_enter Tryz.func43, Tryz.ntmps43
    go_wp2_with fail
    go_ret
    exact ⟨rfl, rfl⟩
  | false =>
    go_enter Tryz.func43, Tryz.ntmps43
    go_wp2_with fail
    go_ret
    exact ⟨rfl, rfl⟩
attribute [local irreducible] bitsT digs
set_option maxRecDepth 20000 in
set_option maxHeartbeats 2000000 in
theorem encFn_any (pc pw gk gw gc1 gc2 : Nat) (T1 T2 : List Tok) (f1 : FitT T1) (f2 : FitT T2) (W0 : World) (t : Tok) (b : Bool) (L : List Bool) (F : Nat → Prop) (w : World) (hC : (encStep T1 T2 L t b).2.length ≤ 1000000000) (hw : tokWf t) (h : EncIn pc pw gk gw gc1 gc2 T1 T2 W0 w L F) :
    Calls Tryz.prog 42 #[.agg (tokv t).toArray, .bool b, .pointer (some ⟨pc, 0, none⟩), .pointer (some ⟨pw, 0, none⟩)] w fun e w' => e = .returned (.int .i64 (encStep T1 T2 L t b).1) ∧ Upd F w w' ∧ ∃ F', EncIn pc pw gk gw gc1 gc2 T1 T2 W0 w' (encStep T1 T2 L t b).2 F' ∧ ∀ x, F' x → F x ∨ w.heap.size ≤ x := by
  obtain ⟨t1, t2, t3⟩ := t
  obtain ⟨h1, h2, h3, h4, h5, h6⟩ := hw
  dsimp only at h1 h2 h3 h4 h5 h6
  obtain ⟨wd, hwd⟩ : ∃ m : Nat, t2 = (m : Int) := ⟨t2.toNat, by omega⟩
  obtain ⟨vl, hvl⟩ : ∃ m : Nat, t3 = (m : Int) := ⟨t3.toNat, by omega⟩
  subst hwd hvl
  have hv2 : vl < 2 ^ wd := by rw [Int.toNat_natCast] at h6; exact_mod_cast h6
  have hHC : Hid ((encStep T1 T2 L (t1, (wd : Int), (vl : Int)) b).2.length ≤ 1000000000) := hid_ hC
  obtain ⟨r, hr, hF⟩ := h.r
  obtain ⟨T, hT⟩ : ∃ T, T = if b then T1 else T2 := ⟨_, rfl⟩
  obtain ⟨gc, hgc⟩ : ∃ g, g = if b then gc1 else gc2 := ⟨_, rfl⟩
  have hfit : FitT T := by rw [hT]; cases b <;> assumption
  have hcs : CoderS W0 gc T := by
    rw [hT, hgc]
    cases b with
    | true => exact h.c1
    | false => exact h.c2
  have HE : Hid (encStep T1 T2 L (t1, (wd : Int), (vl : Int)) b = match findT T t1 with | none => (5, L) | some _ => (0, L ++ bitsT T t1 ++ digs vl wd)) := hid_ (by unfold encStep; rw [hT]; rfl)
  generalize encStep T1 T2 L (t1, (wd : Int), (vl : Int)) b = R at *
  cases hf : findT T t1 with
  | none =>
    rw [hf] at HE
    have HPUT := hid_ (fun W (hc : CoderS W gc T) => coderPut_no gc gw T t1 W hc hf (by omega) (by omega))
    have HX := hid_ (fun W (hx : Ext w W) => h.ext hx)
    have HCX := hid_ (fun W (hx : Ext w W) => hcs.ext (h.b.trans hx))
    have HOF0 := hid_ (fun W (hx : Ext w W) => of_any gk gc1 gc2 b W (h.k.ext (h.b.trans hx)))
    rw [← hgc] at HOF0
    have HPC0 := hid_ (fun W (hx : Ext w W) => (h.p.ext (h.b.trans hx)).cell 0)
    have HPW0 := hid_ (fun W (hx : Ext w W) => (h.q.ext hx).cell 0)
    clear hC hT hgc hfit hcs hf h hr hF
    go_enter Tryz.func42, Tryz.ntmps42
    go_wp2_with (show wpList _ _ _ (⟨some 4, _, _, _, _, _⟩ :: _) _ _; refine wpList_box_abs rfl 80 (.tmp 0) rfl #[.int .i64 t1, .int .i64 (wd : Int), .int .i64 (vl : Int)] rfl ?_; intro w1 g1 hb1 hx1 hg1)
    have HOF := hid_ (fun W (hx : Ext w1.drew W) => ((HOF0.out W ((hx1.drew).trans hx)).mono (fun e w' ⟨e1, e2⟩ => ⟨e1, e2 ▸ Ext.refl _⟩) : Calls Tryz.prog 43 #[.pointer (some ⟨gk, 0, none⟩), .bool b] W fun e w' => e = .returned (.pointer (some ⟨gc, 0, none⟩)) ∧ Ext W w'))
    have HPC := hid_ (fun W (hx : Ext w1.drew W) => HPC0.out W ((hx1.drew).trans hx))
    have HPW := hid_ (fun W (hx : Ext w1.drew W) => HPW0.out W ((hx1.drew).trans hx))
    refine wp_region_lxt later_ext 6 (by kernel_rfl) (by kernel_rfl) ?_
    simp only [List.take_succ_cons, List.take_zero]
    refine lx_read (by rfl) (.pointer (some ⟨gk, 0, none⟩)) (fun W hW => ex_loadK rfl rfl (HPC.out W hW)) ?_
    simp only [Act.put, List.setIfInBounds_toArray, List.set_cons_succ, List.set_cons_zero]
    refine lx_run (by rfl) (.bool b) (ex_move rfl rfl) ?_
    simp only [Act.put, List.setIfInBounds_toArray, List.set_cons_succ, List.set_cons_zero]
    refine lx_callF (by rfl) 43 Tryz.func43 rfl rfl _ _ rfl #[.pointer (some ⟨gk, 0, none⟩), .bool b] (by simp [Act.eval]) (.pointer (some ⟨gc, 0, none⟩)) (fun W hW => HOF.out W hW) ?_
    simp only [Act.put, List.setIfInBounds_toArray, List.set_cons_succ, List.set_cons_zero]
    refine lx_read (by rfl) (.pointer (some ⟨gw, 0, none⟩)) (fun W hW => ex_loadW rfl rfl (HPW.out W hW)) ?_
    simp only [Act.put, List.setIfInBounds_toArray, List.set_cons_succ, List.set_cons_zero]
    refine lx_ex (by rfl) ?_; apply Exists.intro; refine ⟨fun w hw => ?_, ?_⟩; · (go_simp; with_reducible rfl)
    simp only [Act.put, List.setIfInBounds_toArray, List.set_cons_succ, List.set_cons_zero]
    refine lx_read (by rfl) (.int .i64 t1) (fun W hW => ex_loadI rfl rfl ((hb1.ext (Ext.trans (Ext.refl w1).drew hW)).cell 0)) ?_
    simp only [Act.put, List.setIfInBounds_toArray, List.set_cons_succ, List.set_cons_zero]
    refine lx_nil ?_
    intro w2 hx2
    try simp only [List.drop_succ_cons, List.drop_zero]
    have hx2' := (hx1.drew).trans hx2
    go_wp2_with (go_at_call 44; (with_reducible refine (HPUT.out _ (HCX.out _ hx2')).mono ?_); rintro e w3 ⟨rfl, hx3⟩)
    go_ret
    rw [HE.out]
    have hx3' := hx2'.trans hx3
    exact ⟨rfl, upd_of_ext hx3', F, HX.out _ hx3', fun x k => .inl k⟩
  | some u =>
    rw [hf] at HE
    obtain ⟨long, code, rfl, l1, l2, l3⟩ := hfit t1 u hf
    have hLb : (L ++ digs code long ++ digs vl wd).length ≤ 1000000000 := by
      have h0 := hHC.out
      rw [HE.out, bitsT_some hf] at h0
      exact h0
    have hL1 : (L ++ digs code long).length ≤ 1000000000 := by rw [List.length_append] at hLb; omega
    have hL0 : L.length ≤ 1000000000 := by rw [List.length_append] at hL1; omega
    have HPUT := hid_ (fun W (hc : CoderS W gc T) (hW : WrS W gw L r) => coderPut_yes gc gw T L r t1 long code W hc hW hf (by omega) (by omega) (by omega) l3 (by omega))
    have HPU2 := hid_ (fun W r' (hW : WrS W gw (L ++ digs code long) r') => put_any gw (L ++ digs code long) r' vl wd W hW (by omega) hv2 (by omega))
    have HX := hid_ (fun W (hx : Ext w W) => h.ext hx)
    have HCX := hid_ (fun W (hx : Ext w W) => hcs.ext (h.b.trans hx))
    have HWX := hid_ (fun W (hx : Ext w W) => hr.ext hx)
    have HOF0 := hid_ (fun W (hx : Ext w W) => of_any gk gc1 gc2 b W (h.k.ext (h.b.trans hx)))
    rw [← hgc] at HOF0
    have HPC0 := hid_ (fun W (hx : Ext w W) => (h.p.ext (h.b.trans hx)).cell 0)
    have HPW0 := hid_ (fun W (hx : Ext w W) => (h.q.ext hx).cell 0)
    have HR1 : Hid (R = (0, L ++ digs code long ++ digs vl wd)) := hid_ (by rw [HE.out, bitsT_some hf])
    have HFF := hid_ hF
    have hgwlt := hr.lt
    clear hC hT hgc hfit hcs hf hF hLb hL1 hL0 HE hHC
    go_enter Tryz.func42, Tryz.ntmps42
    go_wp2_with (show wpList _ _ _ (⟨some 4, _, _, _, _, _⟩ :: _) _ _; refine wpList_box_abs rfl 80 (.tmp 0) rfl #[.int .i64 t1, .int .i64 (wd : Int), .int .i64 (vl : Int)] rfl ?_; intro w1 g1 hb1 hx1 hg1)
    have HOF := hid_ (fun W (hx : Ext w1.drew W) => ((HOF0.out W ((hx1.drew).trans hx)).mono (fun e w' ⟨e1, e2⟩ => ⟨e1, e2 ▸ Ext.refl _⟩) : Calls Tryz.prog 43 #[.pointer (some ⟨gk, 0, none⟩), .bool b] W fun e w' => e = .returned (.pointer (some ⟨gc, 0, none⟩)) ∧ Ext W w'))
    have HPC := hid_ (fun W (hx : Ext w1.drew W) => HPC0.out W ((hx1.drew).trans hx))
    have HPW := hid_ (fun W (hx : Ext w1.drew W) => HPW0.out W ((hx1.drew).trans hx))
    refine wp_region_lxt later_ext 6 (by kernel_rfl) (by kernel_rfl) ?_
    simp only [List.take_succ_cons, List.take_zero]
    refine lx_read (by rfl) (.pointer (some ⟨gk, 0, none⟩)) (fun W hW => ex_loadK rfl rfl (HPC.out W hW)) ?_
    simp only [Act.put, List.setIfInBounds_toArray, List.set_cons_succ, List.set_cons_zero]
    refine lx_run (by rfl) (.bool b) (ex_move rfl rfl) ?_
    simp only [Act.put, List.setIfInBounds_toArray, List.set_cons_succ, List.set_cons_zero]
    refine lx_callF (by rfl) 43 Tryz.func43 rfl rfl _ _ rfl #[.pointer (some ⟨gk, 0, none⟩), .bool b] (by simp [Act.eval]) (.pointer (some ⟨gc, 0, none⟩)) (fun W hW => HOF.out W hW) ?_
    simp only [Act.put, List.setIfInBounds_toArray, List.set_cons_succ, List.set_cons_zero]
    refine lx_read (by rfl) (.pointer (some ⟨gw, 0, none⟩)) (fun W hW => ex_loadW rfl rfl (HPW.out W hW)) ?_
    simp only [Act.put, List.setIfInBounds_toArray, List.set_cons_succ, List.set_cons_zero]
    refine lx_ex (by rfl) ?_; apply Exists.intro; refine ⟨fun w hw => ?_, ?_⟩; · (go_simp; with_reducible rfl)
    simp only [Act.put, List.setIfInBounds_toArray, List.set_cons_succ, List.set_cons_zero]
    refine lx_read (by rfl) (.int .i64 t1) (fun W hW => ex_loadI rfl rfl ((hb1.ext (Ext.trans (Ext.refl w1).drew hW)).cell 0)) ?_
    simp only [Act.put, List.setIfInBounds_toArray, List.set_cons_succ, List.set_cons_zero]
    refine lx_nil ?_
    intro w2 hx2
    try simp only [List.drop_succ_cons, List.drop_zero]
    have hx2' := (hx1.drew).trans hx2
    have hb2 := hb1.drew.ext hx2
    have hI2 := HX.out _ hx2'
    have hW2 := HWX.out _ hx2'
    have hn2 := wrs_ne hb2 hW2 tokT_ne.1 tokT_ne.2
    go_wp2_with (first
      | (go_at_call 44; (with_reducible refine (HPUT.out _ (HCX.out _ hx2') hW2).mono ?_); rintro e w3 ⟨rfl, r3, hW3, hrr3, hu3⟩; have hI3 := hI2.put hW2 HFF.out hW3 hu3; have hb3 := hu3.blk hb2 (fun e => e.elim hn2.1 hn2.2); have q1 : w3.cell? ⟨g1, 1, none⟩ = some (.int .i64 (wd : Int)) := hb3.cell 1; have q2 : w3.cell? ⟨g1, 2, none⟩ = some (.int .i64 (vl : Int)) := hb3.cell 2; have q3 : w3.cell? ⟨pw, 0, none⟩ = some (.pointer (some ⟨gw, 0, none⟩)) := hI3.q.cell 0)
      | (go_at_call 45; (with_reducible refine (HPU2.out _ _ hW3).mono ?_); rintro e w4 ⟨rfl, r4, hW4, hrr4, hu4⟩))
    go_ret
    rw [HR1.out]
    have hI4 := hI3.put hW3 (fun x => Iff.rfl) hW4 hu4
    have hs2 := hx2'.size
    have hs3 := hu3.size
    refine ⟨rfl, ?_, _, hI4, ?_⟩
    · refine ((upd_of_ext (S := F) hx2').trans hu3 (fun x hx => .inl ((HFF.out x).2 hx))).trans hu4 (fun x hx => ?_)
      rcases hx with e | e
      · exact .inl ((HFF.out x).2 (.inl e))
      · rcases hrr3 with e3 | ⟨y, e3, hy⟩
        · exact .inl ((HFF.out x).2 (.inr (e3 ▸ e)))
        · rw [e3] at e
          have := Option.some.inj e
          exact .inr (by omega)
    · intro x hx
      rcases hx with e | e
      · exact .inl ((HFF.out x).2 (.inl e))
      · rcases hrr4 with e4 | ⟨y, e4, hy⟩
        · rw [e4] at e
          rcases hrr3 with e3 | ⟨y, e3, hy⟩
          · exact .inl ((HFF.out x).2 (.inr (e3 ▸ e)))
          · rw [e3] at e
            have := Option.some.inj e
            exact .inr (by omega)
        · rw [e4] at e
          have := Option.some.inj e
          exact .inr (by omega)
theorem goesEnc : Goes Tryz.prog 42 := ⟨_, Tryz.func42, by kernel_rfl, by kernel_rfl⟩
theorem encEat (pc pw gk gw gc1 gc2 : Nat) (T1 T2 : List Tok) (f1 : FitT T1) (f2 : FitT T2) (W0 : World) : Eat 42 #[.pointer (some ⟨pc, 0, none⟩), .pointer (some ⟨pw, 0, none⟩)] (EncIn pc pw gk gw gc1 gc2 T1 T2 W0) (encStep T1 T2) (fun L => L.length ≤ 1000000000) :=
  ⟨goesEnc, fun l s h => Nat.le_trans (encGo_len T1 T2 l s) h, fun t b s F W hC hw h => by simpa using encFn_any pc pw gk gw gc1 gc2 T1 T2 f1 f2 W0 t b s F W hC hw h, fun s F W W' h hx => h.ext hx, fun s F W x h hx => by
    obtain ⟨r, hr, hF⟩ := h.r
    rcases (hF x).1 hx with rfl | e
    · exact hr.lt
    · exact (hr.row x e).2⟩
end Go.Proofs.YtgmddhljgfbibaaGreatDoor
/- Files: the value and where its parts lie. -/
namespace Go.Proofs.YtgmddhljgfbibaaGreatDoor
set_option linter.unusedVariables false
set_option linter.unusedSimpArgs false
open Go.RowKit
def fileL (wd hi pt : Int) (qs : List Int) (t1 t2 : List Value) (ev : Int) (sd : Value) : List Value := ints [wd, hi, pt] ++ ints qs ++ t1 ++ t2 ++ [.int .i64 ev, sd]
theorem sizeTbls : (Tryz.prog.info? 27).map (·.size) = some 34 := by kernel_rfl
theorem zeroTbl : (Tryz.prog.info? 25).bind (·.zero) = some (.agg (ints (List.replicate 16 0) ++ [Value.slice none 0 0]).toArray) := by kernel_rfl
theorem range_part {w : World} {g : Nat} {T : TypeId} {a m b : List Value} (h : Blk w g T (a ++ (m ++ b)).toArray) : w.rangeAt g a.length m := by
  intro j v hv
  rw [h.cell, List.getElem?_toArray, List.getElem?_append_right (by omega), Nat.add_sub_cancel_left, List.getElem?_append_left (List.getElem?_eq_some_iff.1 hv).1]
  exact hv
/-- a file lies in block g -/
structure FileB (w : World) (g : Nat) (wd hi pt : Int) (qs : List Int) (t1 t2 : List Value) (ev : Int) (sd : Value) : Prop where
  c0 : w.cell? ⟨g, 0, none⟩ = some (.int .i64 wd)
  c1 : w.cell? ⟨g, 1, none⟩ = some (.int .i64 hi)
  c2 : w.cell? ⟨g, 2, none⟩ = some (.int .i64 pt)
  q : w.rangeAt g 3 (ints qs)
  ta : w.rangeAt g 67 t1
  tb : w.rangeAt g 84 t2
  tt : w.rangeAt g 67 (t1 ++ t2)
  c101 : w.cell? ⟨g, 101, none⟩ = some (.int .i64 ev)
  c102 : w.cell? ⟨g, 102, none⟩ = some sd
theorem fileB {w : World} {g : Nat} {T : TypeId} {wd hi pt : Int} {qs : List Int} {t1 t2 : List Value} {ev : Int} {sd : Value} (h : Blk w g T (fileL wd hi pt qs t1 t2 ev sd).toArray) (hq : qs.length = 64) (h1 : t1.length = 17) (h2 : t2.length = 17) :
    FileB w g wd hi pt qs t1 t2 ev sd := by
  have hql := (ints_len qs).trans hq
  have r0 : w.rangeAt g 0 (ints [wd, hi, pt]) := range_part (a := []) (m := ints [wd, hi, pt]) (b := ints qs ++ t1 ++ t2 ++ [.int .i64 ev, sd]) (T := T) (by simpa [fileL] using h)
  have r1 := range_part (a := ints [wd, hi, pt]) (m := ints qs) (b := t1 ++ t2 ++ [.int .i64 ev, sd]) (T := T) (w := w) (g := g) (by simpa [fileL] using h)
  have r2 := range_part (a := ints [wd, hi, pt] ++ ints qs) (m := t1) (b := t2 ++ [.int .i64 ev, sd]) (T := T) (w := w) (g := g) (by simpa [fileL] using h)
  have r3 := range_part (a := ints [wd, hi, pt] ++ ints qs ++ t1) (m := t2) (b := [.int .i64 ev, sd]) (T := T) (w := w) (g := g) (by simpa [fileL] using h)
  have r4 := range_part (a := ints [wd, hi, pt] ++ ints qs) (m := t1 ++ t2) (b := [.int .i64 ev, sd]) (T := T) (w := w) (g := g) (by simpa [fileL] using h)
  have r5 := range_part (a := ints [wd, hi, pt] ++ ints qs ++ t1 ++ t2) (m := [.int .i64 ev, sd]) (b := []) (T := T) (w := w) (g := g) (by simpa [fileL] using h)
  simp only [List.length_append, hql, h1, h2, ints_len, List.length_cons, List.length_nil] at r1 r2 r3 r4 r5
  exact ⟨r0 0 _ rfl, r0 1 _ rfl, r0 2 _ rfl, r1, r2, r3, r4, r5 0 _ rfl, r5 1 _ rfl⟩
theorem fileL_len (wd hi pt : Int) (qs : List Int) (t1 t2 : List Value) (ev : Int) (sd : Value) (hq : qs.length = 64) (h1 : t1.length = 17) (h2 : t2.length = 17) : (fileL wd hi pt qs t1 t2 ev sd).toArray.size = 103 := by
  simp [fileL, ints_len, hq, h1, h2]
/-- a table's cells -/
def tblL (cs : List Int) (sl : Value) : List Value := ints cs ++ [sl]
theorem tblv_tblL (cs : List Int) (sl : Value) : tblv cs sl = (tblL cs sl).toArray := rfl
theorem tblL_len (cs : List Int) (sl : Value) (h : cs.length = 16) : (tblL cs sl).length = 17 := by simp [tblL, ints_len, h]
set_option maxRecDepth 20000 in
theorem built2 (t1 t2 : List Value) (h1 : t1.length = 17) (h2 : t2.length = 17) : Tryz.prog.builtSlice 25 2 [(0, .agg t1.toArray), (1, .agg t2.toArray)] = some (t1 ++ t2).toArray := by
  match t1, h1 with
  | [a0, a1, a2, a3, a4, a5, a6, a7, a8, a9, a10, a11, a12, a13, a14, a15, a16], _ =>
    match t2, h2 with
    | [b0, b1, b2, b3, b4, b5, b6, b7, b8, b9, b10, b11, b12, b13, b14, b15, b16], _ =>
      show _ = _
      kernel_rfl
theorem wpList_load_mid_g {P : Program} {ops : Array Oper} {rest : List Oper} {op : Oper} {a : Act} {w : World} {Q : Exit → Act → World → Prop} (hw : Region.wanted op (yielded ops a.tmps) = true) (ty : TypeId) (x : Operand) (ho : op.op = .load ty x)
    (b o : Nat) (hx : a.eval x = .pointer (some ⟨b, o, none⟩)) (cs : List Value) (d : TypeDesc) (hc : w.rangeAt b o cs)
    (hu : P.underlying ty = some d) (hd : d.isRow = true) (hi : (P.info? ty).map (·.size) = some cs.length)
    (h : wpList P ops Q rest (a.put op.dst (.agg cs.toArray)) w) : wpList P ops Q (op :: rest) a w :=
  wpList_wanted hw fun _ hK => wp_load_mid ty x ho b o hx cs d hc hu hd hi (hK _ _ h)
theorem range_two {w : World} {g : Nat} {T : TypeId} {t1 t2 : List Value} (h1 : t1.length = 17) (h : Blk w g T (t1 ++ t2).toArray) : w.rangeAt g 0 t1 ∧ w.rangeAt g 17 t2 := by
  refine ⟨range_part (a := []) (m := t1) (b := t2) (T := T) (by simpa using h), ?_⟩
  have := range_part (a := t1) (m := t2) (b := []) (T := T) (w := w) (g := g) (by simpa using h)
  rwa [h1] at this
/-- the results of Check -/
def argsOK (wd hi pt ev : Int) : Bool := inB wd 1 64 && inB hi 1 64 && (pt == 1 || pt == 3) && inB ev 0 100
def fcheckZ (wd hi pt : Int) (qs : List Int) (z1 z2 : Int) (ev : Int) (n : Nat) : Int :=
  if argsOK wd hi pt ev && allIn qs 1 255 then (if z1 = 0 then (if z2 = 0 then (if 90000 < n then 2 else 0) else z2) else z1) else 1
end Go.Proofs.YtgmddhljgfbibaaGreatDoor
/- seg.made: the coders of both tables. -/
namespace Go.Proofs.YtgmddhljgfbibaaGreatDoor
set_option linter.unusedVariables false
set_option linter.unusedSimpArgs false
open Go.RowKit
section
variable {P : Program} {o : Oper} {a : Act}
theorem ex_build1 {t : TypeId} {x : Operand} (ho : o.op = .build t #[(0, x)]) {vx : Value} (hx : a.eval x = vx) {cs : Array Value} (hf : P.built t [(0, vx)] = some cs) (w : World) : (execOp a.eval o).run P w = .ok (.value (.agg cs)) w := by
  simp only [execOp, ho, Sem.run_bind, run_build w t (#[(0, x)].map fun (i, x) => (i, a.eval x)) cs (by simpa [hx] using hf), Result.andThen_ok, Sem.run_pure]
theorem ex_build2 {t : TypeId} {x y : Operand} (ho : o.op = .build t #[(0, x), (1, y)]) {vx vy : Value} (hx : a.eval x = vx) (hy : a.eval y = vy) {cs : Array Value} (hf : P.built t [(0, vx), (1, vy)] = some cs) (w : World) : (execOp a.eval o).run P w = .ok (.value (.agg cs)) w := by
  simp only [execOp, ho, Sem.run_bind, run_build w t (#[(0, x), (1, y)].map fun (i, x) => (i, a.eval x)) cs (by simpa [hx, hy] using hf), Result.andThen_ok, Sem.run_pure]
end
theorem builtCoders (p q : Addr) : Tryz.prog.built 103 [(0, .pointer (some p)), (1, .pointer (some q))] = some #[.pointer (some p), .pointer (some q)] := by
  show _ = _
  kernel_rfl
theorem goesNew : Goes Tryz.prog 49 := ⟨_, Tryz.func49, by kernel_rfl, by kernel_rfl⟩
section
variable {P : Program} {o : Oper} {a : Act}
theorem ex_loadMid {ty : TypeId} {x : Operand} (ho : o.op = .load ty x) {b off : Nat} (hx : a.eval x = .pointer (some ⟨b, off, none⟩)) {cs : List Value} {w : World} (hc : w.rangeAt b off cs) {d : TypeDesc} (hu : P.underlying ty = some d) (hd : d.isRow = true) (hi : (P.info? ty).map (·.size) = some cs.length) :
    (execOp a.eval o).run P w = .ok (.value (.agg cs.toArray)) w := by
  simp only [execOp, ho, hx, Sem.run_bind, run_loadAt_mid w b off ty cs d hc hu hd hi, Result.andThen_ok, Sem.run_pure]
end
set_option maxRecDepth 20000 in
set_option maxHeartbeats 4000000 in
theorem made_bad (t1 t2 : List Value) (z1 z2 : Int) (w : World) (h1 : t1.length = 17) (h2 : t2.length = 17)
    (o1 : t1.toArray.all (·.oneCell') = true) (o2 : t2.toArray.all (·.oneCell') = true)
    (C1 : ∀ W, Ext w W → Calls Tryz.prog 18 #[.agg t1.toArray] W fun e W' => e = .returned (.int .i64 z1) ∧ Ext W W')
    (C2 : ∀ W, Ext w W → Calls Tryz.prog 18 #[.agg t2.toArray] W fun e W' => e = .returned (.int .i64 z2) ∧ Ext W W')
    (hne : (if z1 = 0 then z2 else z1) ≠ 0) :
    Calls Tryz.prog 23 #[.agg (t1 ++ t2).toArray] w fun e w' => e = .returned (.tuple #[.pointer none, .int .i64 (if z1 = 0 then z2 else z1)]) ∧ Ext w w' := by
  have hl1 := hid_ h1
  have hl2 := hid_ h2
  have HB2 := hid_ (built2 t1 t2 h1 h2)
  have HRT := hid_ (fun W g (hb : Blk W g 25 (t1 ++ t2).toArray) => range_two h1 hb)
  have HRU := hid_ (fun W g (hb : Blk W g 27 (t1 ++ t2).toArray) => range_two h1 hb)
  have hs1 : Hid (t1.toArray.size = 17) := hid_ (by simpa using h1)
  have hs2 : Hid (t2.toArray.size = 17) := hid_ (by simpa using h2)
  have hz17 : Hid ((ints (List.replicate 16 0) ++ [Value.slice none 0 0]).toArray.size = 17) := hid_ (by simp [ints])
  have hl3 : Hid ((t1 ++ t2).toArray.size = 34) := hid_ (by simp [h1, h2])
  have HO1 := hid_ o1
  have HO2 := hid_ o2
  have HC1 := hid_ C1
  have HC2 := hid_ C2
  clear o1 o2 C1 C2 h1 h2
  generalize hR : (if z1 = 0 then z2 else z1) = R at *
  have HR := hid_ hR
  have HNE := hid_ hne
  clear hR hne
  go_enter Tryz.func23, Tryz.ntmps23
  go_wp2_with (first
    | (show wpList _ _ _ (⟨some 1, _, _, _, _, _⟩ :: _) _ _; refine wpList_box_abs rfl 27 (.tmp 0) rfl (t1 ++ t2).toArray rfl ?_; intro w1 g hb1 hx1 hg; have hr1 := HRU.out _ _ hb1)
    | (show wpList _ _ _ (⟨some 8, _, _, _, _, _⟩ :: _) _ _; refine wpList_load_mid rfl 25 (.tmp 7) rfl g 0 rfl t1 _ hr1.1 Tryz.underlying25 rfl (by rw [hl1.out]; exact sizeTbl) ?_)
    | (show wpList _ _ _ (⟨some 10, _, _, _, _, _⟩ :: _) _ _; refine wpList_load_mid rfl 25 (.tmp 9) rfl g 17 rfl t2 _ hr1.2 Tryz.underlying25 rfl (by rw [hl2.out]; exact sizeTbl) ?_)
    | (show wpList _ _ _ (⟨some 11, _, _, _, _, _⟩ :: _) _ _; refine Go.Great.wpList_buildSliceTo rfl 53 25 2 _ rfl _ rfl (some 11) rfl Tryz.underlying53 _ (by simp [Act.eval]; exact HB2.out) ?_))
  have hbn0 := Blk.new w1 25 (t1 ++ t2).toArray
  have hb3 := hb1.alloc (.cells (t1 ++ t2).toArray 25)
  have hx3 := hx1.alloc (.cells (t1 ++ t2).toArray 25)
  clear hb1 hr1 hx1
  go_loopw [13] (fun i wr => ∃ k : Nat, k ≤ 2 ∧ i = .int .i64 (k : Int) ∧ (1 ≤ k → z1 = 0) ∧ (2 ≤ k → z2 = 0) ∧ Blk wr g 27 (t1 ++ t2).toArray ∧ Blk wr w1.heap.size 25 (t1 ++ t2).toArray ∧ Ext w wr) (fun i _ => 2 - (intOf i).toNat)
  case atStart => exact ⟨0, by omega, rfl, fun h => absurd h (by omega), fun h => absurd h (by omega), hb3, hbn0, hx3⟩
  case round =>
    clear hb3 hbn0 hx3
    obtain ⟨k, hk, rfl, e1, e2, hb, hbn, hx⟩ := hrel
    rcases (by omega : k = 0 ∨ k = 1 ∨ k = 2) with rfl | rfl | rfl
    · have hr := (HRT.out _ _ hbn).1
      by_cases hz : z1 = 0
      · subst hz
        go_wp2_with (first
          | (show wpList _ _ _ (⟨some 16, _, _, _, _, _⟩ :: _) _ _; refine wpList_load_mid rfl 25 (.tmp 15) rfl _ 0 rfl t1 _ hr Tryz.underlying25 rfl (by rw [hl1.out]; exact sizeTbl) ?_)
          | (show wpList _ _ _ (⟨some 5, _, _, _, _, _⟩ :: _) _ _; refine wpList_alloc_abs' rfl (some 5) rfl 25 rfl _ zeroTbl ?_; intro w4 ga hba4 hx4 hga)
          | (show wpList _ _ _ (⟨none, .store _ (.tmp 5) (.tmp 16), _, _, _, _⟩ :: _) _ _; refine wpList_store_blk rfl 25 (.tmp 5) (.tmp 16) rfl _ _ rfl rfl hba4 17 sizeTbl hs1.out hz17.out HO1.out ?_; intro w5 hba5 hg5; have hx5 := (hx.trans hx4).grown hg5 (by have := hx.size; omega))
          | (show wpList _ _ _ (⟨some 17, _, _, _, _, _⟩ :: _) _ _; refine wpList_load_blk rfl 25 (.tmp 5) rfl _ rfl hba5 _ Tryz.underlying25 rfl 17 sizeTbl hs1.out ?_)
          | (go_at_call 18; (with_reducible refine (HC1.out _ hx5).mono ?_); rintro e w6 ⟨rfl, hx6⟩))
        go_roundw
        case rel => exact ⟨1, by omega, by go_num, by simp, fun h => absurd h (by omega), ((hb.ext hx4).grown hg5 (by have := hb.lt; simp; omega)).ext hx6, ((hbn.ext hx4).grown hg5 (by have := hbn.lt; simp; omega)).ext hx6, hx5.trans hx6⟩
        case measure => simp [intOf]
      · have hz1 : (z1 != 0) = true := by simpa using hz
        have HZ := hid_ hz
        clear hz
        go_wp2_with (first
          | (show wpList _ _ _ (⟨some 16, _, _, _, _, _⟩ :: _) _ _; refine wpList_load_mid rfl 25 (.tmp 15) rfl _ 0 rfl t1 _ hr Tryz.underlying25 rfl (by rw [hl1.out]; exact sizeTbl) ?_)
          | (show wpList _ _ _ (⟨some 5, _, _, _, _, _⟩ :: _) _ _; refine wpList_alloc_abs' rfl (some 5) rfl 25 rfl _ zeroTbl ?_; intro w4 ga hba4 hx4 hga)
          | (show wpList _ _ _ (⟨none, .store _ (.tmp 5) (.tmp 16), _, _, _, _⟩ :: _) _ _; refine wpList_store_blk rfl 25 (.tmp 5) (.tmp 16) rfl _ _ rfl rfl hba4 17 sizeTbl hs1.out hz17.out HO1.out ?_; intro w5 hba5 hg5; have hx5 := (hx.trans hx4).grown hg5 (by have := hx.size; omega))
          | (show wpList _ _ _ (⟨some 17, _, _, _, _, _⟩ :: _) _ _; refine wpList_load_blk rfl 25 (.tmp 5) rfl _ rfl hba5 _ Tryz.underlying25 rfl 17 sizeTbl hs1.out ?_)
          | (go_at_call 18; (with_reducible refine (HC1.out _ hx5).mono ?_); rintro e w6 ⟨rfl, hx6⟩))
        refine bodyPost_ret (results_tmp2 rfl _ _ _) rfl ?_
        exact ⟨by rw [← HR.out, if_neg HZ.out]; rfl, hx5.trans hx6⟩
    · have hr := (HRT.out _ _ hbn).2
      have hz0 := e1 (by omega)
      have hz2 : z2 = R := by rw [← HR.out, if_pos hz0]
      have hzb : (z2 != 0) = true := by rw [hz2]; simpa using HNE.out
      have HZ2 := hid_ hz2
      clear hz0 e1 e2 hz2
      go_wp2_with (first
        | (show wpList _ _ _ (⟨some 16, _, _, _, _, _⟩ :: _) _ _; refine wpList_load_mid rfl 25 (.tmp 15) rfl _ 17 rfl t2 _ hr Tryz.underlying25 rfl (by rw [hl2.out]; exact sizeTbl) ?_)
        | (show wpList _ _ _ (⟨some 5, _, _, _, _, _⟩ :: _) _ _; refine wpList_alloc_abs' rfl (some 5) rfl 25 rfl _ zeroTbl ?_; intro w4 ga hba4 hx4 hga)
        | (show wpList _ _ _ (⟨none, .store _ (.tmp 5) (.tmp 16), _, _, _, _⟩ :: _) _ _; refine wpList_store_blk rfl 25 (.tmp 5) (.tmp 16) rfl _ _ rfl rfl hba4 17 sizeTbl hs2.out hz17.out HO2.out ?_; intro w5 hba5 hg5; have hx5 := (hx.trans hx4).grown hg5 (by have := hx.size; omega))
        | (show wpList _ _ _ (⟨some 17, _, _, _, _, _⟩ :: _) _ _; refine wpList_load_blk rfl 25 (.tmp 5) rfl _ rfl hba5 _ Tryz.underlying25 rfl 17 sizeTbl hs2.out ?_)
        | (go_at_call 18; (with_reducible refine (HC2.out _ hx5).mono ?_); rintro e w6 ⟨rfl, hx6⟩))
      refine bodyPost_ret (results_tmp2 rfl _ _ _) rfl ?_
      exact ⟨by rw [← HZ2.out]; rfl, hx5.trans hx6⟩
    · exact absurd (by rw [← HR.out, if_pos (e1 (by omega)), e2 (by omega)]) HNE.out
set_option maxRecDepth 20000 in
set_option maxHeartbeats 4000000 in
theorem made_good (T1 T2 : List Tok) (t1 t2 : List Value) (w : World) (h1 : t1.length = 17) (h2 : t2.length = 17)
    (o1 : t1.toArray.all (·.oneCell') = true) (o2 : t2.toArray.all (·.oneCell') = true)
    (C1 : ∀ W, Ext w W → Calls Tryz.prog 18 #[.agg t1.toArray] W fun e W' => e = .returned (.int .i64 0) ∧ Ext W W')
    (C2 : ∀ W, Ext w W → Calls Tryz.prog 18 #[.agg t2.toArray] W fun e W' => e = .returned (.int .i64 0) ∧ Ext W W')
    (N1 : ∀ W, Ext w W → Calls Tryz.prog 49 #[.agg t1.toArray] W fun e W' => ∃ gc, e = .returned (.pointer (some ⟨gc, 0, none⟩)) ∧ CoderS W' gc T1 ∧ Ext W W')
    (N2 : ∀ W, Ext w W → Calls Tryz.prog 49 #[.agg t2.toArray] W fun e W' => ∃ gc, e = .returned (.pointer (some ⟨gc, 0, none⟩)) ∧ CoderS W' gc T2 ∧ Ext W W') :
    Calls Tryz.prog 23 #[.agg (t1 ++ t2).toArray] w fun e w' => ∃ gk gc1 gc2, e = .returned (.tuple #[.pointer (some ⟨gk, 0, none⟩), .int .i64 0]) ∧ Blk w' gk 103 #[.pointer (some ⟨gc1, 0, none⟩), .pointer (some ⟨gc2, 0, none⟩)] ∧ CoderS w' gc1 T1 ∧ CoderS w' gc2 T2 ∧ Ext w w' := by
  have HN1 := hid_ N1
  have HN2 := hid_ N2
  clear N1 N2
  have hl1 := hid_ h1
  have hl2 := hid_ h2
  have HB2 := hid_ (built2 t1 t2 h1 h2)
  have HRT := hid_ (fun W g (hb : Blk W g 25 (t1 ++ t2).toArray) => range_two h1 hb)
  have HRU := hid_ (fun W g (hb : Blk W g 27 (t1 ++ t2).toArray) => range_two h1 hb)
  have hs1 : Hid (t1.toArray.size = 17) := hid_ (by simpa using h1)
  have hs2 : Hid (t2.toArray.size = 17) := hid_ (by simpa using h2)
  have hz17 : Hid ((ints (List.replicate 16 0) ++ [Value.slice none 0 0]).toArray.size = 17) := hid_ (by simp [ints])
  have hl3 : Hid ((t1 ++ t2).toArray.size = 34) := hid_ (by simp [h1, h2])
  have HO1 := hid_ o1
  have HO2 := hid_ o2
  have HC1 := hid_ C1
  have HC2 := hid_ C2
  clear o1 o2 C1 C2 h1 h2
  go_enter Tryz.func23, Tryz.ntmps23
  go_wp2_with (first
    | (show wpList _ _ _ (⟨some 1, _, _, _, _, _⟩ :: _) _ _; refine wpList_box_abs rfl 27 (.tmp 0) rfl (t1 ++ t2).toArray rfl ?_; intro w1 g hb1 hx1 hg; have hr1 := HRU.out _ _ hb1)
    | (show wpList _ _ _ (⟨some 8, _, _, _, _, _⟩ :: _) _ _; refine wpList_load_mid rfl 25 (.tmp 7) rfl g 0 rfl t1 _ hr1.1 Tryz.underlying25 rfl (by rw [hl1.out]; exact sizeTbl) ?_)
    | (show wpList _ _ _ (⟨some 10, _, _, _, _, _⟩ :: _) _ _; refine wpList_load_mid rfl 25 (.tmp 9) rfl g 17 rfl t2 _ hr1.2 Tryz.underlying25 rfl (by rw [hl2.out]; exact sizeTbl) ?_)
    | (show wpList _ _ _ (⟨some 11, _, _, _, _, _⟩ :: _) _ _; refine Go.Great.wpList_buildSliceTo rfl 53 25 2 _ rfl _ rfl (some 11) rfl Tryz.underlying53 _ (by simp [Act.eval]; exact HB2.out) ?_))
  have hbn0 := Blk.new w1 25 (t1 ++ t2).toArray
  have hb3 := hb1.alloc (.cells (t1 ++ t2).toArray 25)
  have hx3 := hx1.alloc (.cells (t1 ++ t2).toArray 25)
  clear hb1 hr1 hx1
  go_loopw [13] (fun i wr => ∃ k : Nat, k ≤ 2 ∧ i = .int .i64 (k : Int) ∧ Blk wr g 27 (t1 ++ t2).toArray ∧ Blk wr w1.heap.size 25 (t1 ++ t2).toArray ∧ Ext w wr) (fun i _ => 2 - (intOf i).toNat)
  case atStart => exact ⟨0, by omega, rfl, hb3, hbn0, hx3⟩
  case round =>
    clear hb3 hbn0 hx3
    obtain ⟨k, hk, rfl, hb, hbn, hx⟩ := hrel
    rcases (by omega : k = 0 ∨ k = 1 ∨ k = 2) with rfl | rfl | rfl
    · have hr := (HRT.out _ _ hbn).1
      go_wp2_with (first
        | (show wpList _ _ _ (⟨some 16, _, _, _, _, _⟩ :: _) _ _; refine wpList_load_mid rfl 25 (.tmp 15) rfl _ 0 rfl t1 _ hr Tryz.underlying25 rfl (by rw [hl1.out]; exact sizeTbl) ?_)
        | (show wpList _ _ _ (⟨some 5, _, _, _, _, _⟩ :: _) _ _; refine wpList_alloc_abs' rfl (some 5) rfl 25 rfl _ zeroTbl ?_; intro w4 ga hba4 hx4 hga)
        | (show wpList _ _ _ (⟨none, .store _ (.tmp 5) (.tmp 16), _, _, _, _⟩ :: _) _ _; refine wpList_store_blk rfl 25 (.tmp 5) (.tmp 16) rfl _ _ rfl rfl hba4 17 sizeTbl hs1.out hz17.out HO1.out ?_; intro w5 hba5 hg5; have hx5 := (hx.trans hx4).grown hg5 (by have := hx.size; omega))
        | (show wpList _ _ _ (⟨some 17, _, _, _, _, _⟩ :: _) _ _; refine wpList_load_blk rfl 25 (.tmp 5) rfl _ rfl hba5 _ Tryz.underlying25 rfl 17 sizeTbl hs1.out ?_)
        | (go_at_call 18; (with_reducible refine (HC1.out _ hx5).mono ?_); rintro e w6 ⟨rfl, hx6⟩))
      go_roundw
      case rel => exact ⟨1, by omega, by go_num, ((hb.ext hx4).grown hg5 (by have := hb.lt; simp; omega)).ext hx6, ((hbn.ext hx4).grown hg5 (by have := hbn.lt; simp; omega)).ext hx6, hx5.trans hx6⟩
      case measure => simp [intOf]
    · have hr := (HRT.out _ _ hbn).2
      go_wp2_with (first
        | (show wpList _ _ _ (⟨some 16, _, _, _, _, _⟩ :: _) _ _; refine wpList_load_mid rfl 25 (.tmp 15) rfl _ 17 rfl t2 _ hr Tryz.underlying25 rfl (by rw [hl2.out]; exact sizeTbl) ?_)
        | (show wpList _ _ _ (⟨some 5, _, _, _, _, _⟩ :: _) _ _; refine wpList_alloc_abs' rfl (some 5) rfl 25 rfl _ zeroTbl ?_; intro w4 ga hba4 hx4 hga)
        | (show wpList _ _ _ (⟨none, .store _ (.tmp 5) (.tmp 16), _, _, _, _⟩ :: _) _ _; refine wpList_store_blk rfl 25 (.tmp 5) (.tmp 16) rfl _ _ rfl rfl hba4 17 sizeTbl hs2.out hz17.out HO2.out ?_; intro w5 hba5 hg5; have hx5 := (hx.trans hx4).grown hg5 (by have := hx.size; omega))
        | (show wpList _ _ _ (⟨some 17, _, _, _, _, _⟩ :: _) _ _; refine wpList_load_blk rfl 25 (.tmp 5) rfl _ rfl hba5 _ Tryz.underlying25 rfl 17 sizeTbl hs2.out ?_)
        | (go_at_call 18; (with_reducible refine (HC2.out _ hx5).mono ?_); rintro e w6 ⟨rfl, hx6⟩))
      go_roundw
      case rel => exact ⟨2, by omega, by go_num, ((hb.ext hx4).grown hg5 (by have := hb.lt; simp; omega)).ext hx6, ((hbn.ext hx4).grown hg5 (by have := hbn.lt; simp; omega)).ext hx6, hx5.trans hx6⟩
      case measure => simp [intOf]
    · have HRD := hid_ (fun W (h : Ext wr W) => HRU.out W g (hb.ext h))
      clear hb hbn
      go_wp2_with fail
      have hI : Ext wr wr.drew := (Ext.refl wr).drew
      refine wp_region_oi (Ext wr) (by kernel_rfl) ?_
      refine oi_run (k := 0) (by kernel_rfl) rfl (by rfl) (.pointer (some ⟨g, 0, none⟩)) (fun w => by go_simp) hI ?_
      simp only [Act.put, List.setIfInBounds_toArray, List.set_cons_succ, List.set_cons_zero]
      refine oi_fix (k := 1) (by kernel_rfl) rfl (by rfl) (.agg t1.toArray) (fun W hW => ex_loadMid rfl rfl (HRD.out W hW).1 Tryz.underlying25 rfl (by rw [hl1.out]; exact sizeTbl)) hI ?_
      simp only [Act.put, List.setIfInBounds_toArray, List.set_cons_succ, List.set_cons_zero]
      refine oi_run (k := 3) (by kernel_rfl) rfl (by rfl) (.pointer (some ⟨g, 17, none⟩)) (fun w => by go_simp) hI ?_
      simp only [Act.put, List.setIfInBounds_toArray, List.set_cons_succ, List.set_cons_zero]
      refine oi_fix (k := 4) (by kernel_rfl) rfl (by rfl) (.agg t2.toArray) (fun W hW => ex_loadMid rfl rfl (HRD.out W hW).2 Tryz.underlying25 rfl (by rw [hl2.out]; exact sizeTbl)) hI ?_
      simp only [Act.put, List.setIfInBounds_toArray, List.set_cons_succ, List.set_cons_zero]
      refine oi_loud (k := 2) (by kernel_rfl) rfl ?_
      refine wl_enter (by rfl) (run_callv _ _ _ rfl rfl goesNew #[.agg t1.toArray] (by simp [Act.eval])) ?_
      refine (HN1.out _ (hx.trans hI)).mono ?_
      rintro e w5 ⟨gc1, rfl, hc1, hx5⟩
      have hI5 := hI.trans hx5
      refine ⟨_, rfl, oi_end ⟨hI5, ?_⟩⟩
      simp only [Act.put, List.setIfInBounds_toArray, List.set_cons_succ, List.set_cons_zero]
      refine oi_loud (k := 5) (by kernel_rfl) rfl ?_
      refine wl_enter (by rfl) (run_callv _ _ _ rfl rfl goesNew #[.agg t2.toArray] (by simp [Act.eval])) ?_
      refine (HN2.out _ (hx.trans hI5)).mono ?_
      rintro e w6 ⟨gc2, rfl, hc2, hx6⟩
      have hI6 := hI5.trans hx6
      refine ⟨_, rfl, oi_end ⟨hI6, ?_⟩⟩
      simp only [Act.put, List.setIfInBounds_toArray, List.set_cons_succ, List.set_cons_zero]
      refine oi_run (k := 6) (by kernel_rfl) rfl (by rfl) (.agg #[.pointer (some ⟨gc1, 0, none⟩), .pointer (some ⟨gc2, 0, none⟩)]) (ex_build2 rfl rfl rfl (builtCoders _ _)) hI6 ?_
      simp only [Act.put, List.setIfInBounds_toArray, List.set_cons_succ, List.set_cons_zero]
      refine oi_loud (k := 7) (by kernel_rfl) rfl ?_
      refine wpList_box_abs rfl 103 (.tmp 29) rfl #[.pointer (some ⟨gc1, 0, none⟩), .pointer (some ⟨gc2, 0, none⟩)] rfl ?_
      intro w7 gk hb7 hx7 hg7
      have hI7 := hI6.trans hx7
      refine oi_end ⟨hI7, ?_⟩
      simp only [Act.put, List.setIfInBounds_toArray, List.set_cons_succ, List.set_cons_zero]
      refine oi_run (k := 8) (by kernel_rfl) rfl (by rfl) (.pointer (some ⟨gk, 0, none⟩)) (ex_assign rfl rfl) hI7 ?_
      simp only [Act.put, List.setIfInBounds_toArray, List.set_cons_succ, List.set_cons_zero]
      refine oi_run (k := 9) (by kernel_rfl) rfl (by rfl) (.int .i64 0) (ex_assign rfl rfl) hI7 ?_
      simp only [Act.put, List.setIfInBounds_toArray, List.set_cons_succ, List.set_cons_zero]
      refine oi_done (by kernel_rfl) ?_
      go_wp2_with fail
      refine bodyPost_ret (results_tmp2 rfl _ _ _) rfl ?_
      exact ⟨gk, gc1, gc2, rfl, hb7, (hc1.ext hx6).ext hx7, hc2.ext hx7, hx.trans hI7⟩
end Go.Proofs.YtgmddhljgfbibaaGreatDoor
