/- Contracts for the law SegDecodesUptoCard, part 19: what the functions that it reaches answer, for all arguments that the theorems name. -/
import Derived.Test.YtgmddhljgfbibaaDoorMSegDecodesUptoCard18
import Derived.Test.YtgmddhljgfbibaaDoorMSegDecodesUptoCard6
/- The closure of seg.Encode as one that eats tokens. -/
namespace Go.Proofs.YtgmddhljgfbibaaDoor
set_option linter.unusedVariables false
set_option linter.unusedSimpArgs false
open Go.RowKit
/-- one more token's digits -/
def encStep (T1 T2 : List Tok) (L : List Bool) (t : Tok) (b : Bool) : Int × List Bool :=
  match findT (if b then T1 else T2) t.1 with
  | none => (5, L)
  | some _ => (0, L ++ bitsT (if b then T1 else T2) t.1 ++ digs t.2.2.toNat t.2.1.toNat)
theorem encStep_len (T1 T2 : List Tok) (L : List Bool) (t : Tok) (b : Bool) : L.length ≤ (encStep T1 T2 L t b).2.length := by
  unfold encStep
  split
  · exact Nat.le_refl _
  · simp only [List.length_append]; omega
theorem encGo_len (T1 T2 : List Tok) : ∀ (l : List (Tok × Bool)) (L : List Bool), L.length ≤ (eatGo (encStep T1 T2) l L).2.length
  | [], L => Nat.le_refl _
  | (t, b) :: r, L => by
    have h1 := encStep_len T1 T2 L t b
    by_cases h0 : (encStep T1 T2 L t b).1 = 0
    · rw [eatGo_ok h0]; exact Nat.le_trans h1 (encGo_len T1 T2 r _)
    · rw [eatGo_err h0]; exact h1
theorem encGo_bd {T1 T2 : List Tok} (f1 : FitT T1) (f2 : FitT T2) : ∀ (l : List (Tok × Bool)) (L : List Bool), (∀ t ∈ l, tokWf t.1) → (eatGo (encStep T1 T2) l L).2.length ≤ L.length + 28 * l.length
  | [], L, _ => by simp [eatGo]
  | (t, b) :: r, L, h => by
    have hw := h (t, b) (by simp)
    obtain ⟨-, -, w1, w2, -, -⟩ := hw
    dsimp only at w1 w2
    have h1 : (encStep T1 T2 L t b).2.length ≤ L.length + 28 := by
      unfold encStep
      split
      · simp
      · have h2 : (bitsT (if b then T1 else T2) t.1).length ≤ 16 := by
          cases b with
          | true => exact bitsT_len f1 _
          | false => exact bitsT_len f2 _
        simp only [List.length_append, digs_len]
        omega
    by_cases h0 : (encStep T1 T2 L t b).1 = 0
    · rw [eatGo_ok h0]
      have := encGo_bd f1 f2 r (encStep T1 T2 L t b).2 (fun u hu => h u (by simp [hu]))
      simp only [List.length_cons]
      omega
    · rw [eatGo_err h0]
      simp only [List.length_cons]
      omega
/-- a writer, the coders, and where the closure finds them; W0: before the writer was made -/
structure EncIn (pc pw gk gw gc1 gc2 : Nat) (T1 T2 : List Tok) (W0 W : World) (L : List Bool) (F : Nat → Prop) : Prop where
  p : Blk W0 pc 51 #[.pointer (some ⟨gk, 0, none⟩)]
  k : Blk W0 gk 115 #[.pointer (some ⟨gc1, 0, none⟩), .pointer (some ⟨gc2, 0, none⟩)]
  c1 : CoderS W0 gc1 T1
  c2 : CoderS W0 gc2 T2
  old : W0.heap.size ≤ gw
  b : Ext W0 W
  q : Blk W pw 54 #[.pointer (some ⟨gw, 0, none⟩)]
  r : ∃ r, WrS W gw L r ∧ ∀ x, F x ↔ x = gw ∨ r = some x
theorem EncIn.ext {pc pw gk gw gc1 gc2 : Nat} {T1 T2 : List Tok} {W0 W W' : World} {L : List Bool} {F : Nat → Prop} (h : EncIn pc pw gk gw gc1 gc2 T1 T2 W0 W L F) (hx : Ext W W') : EncIn pc pw gk gw gc1 gc2 T1 T2 W0 W' L F := by
  obtain ⟨r, hr, hF⟩ := h.r
  exact ⟨h.p, h.k, h.c1, h.c2, h.old, h.b.trans hx, h.q.ext hx, r, hr.ext hx, hF⟩
theorem own_blkE {w : World} {g base size n : Nat} {T e : TypeId} {cs : Array Value} {v : Value} {xs : List Value} (h : Blk w g T cs) (ho : w.ownsRow base e size v n xs) (hne : T ≠ e) : some g ≠ v.ownBlock := by
  obtain ⟨-, hh⟩ := ho
  rcases hh with ⟨rfl, -⟩ | ⟨k, cap, cur, rfl, -, hg, -⟩
  · simp [Value.ownBlock]
  · intro e1
    have : g = k := by simpa [Value.ownBlock] using e1
    subst this
    exact (h.ne_ (g' := g) (cs' := cur) hg hne) rfl
theorem wrs_ne {w : World} {g gw : Nat} {T : TypeId} {cs : Array Value} {L : List Bool} {r : Option Nat} (h : Blk w g T cs) (hw : WrS w gw L r) (h1 : T ≠ 57) (h2 : T ≠ 5) : g ≠ gw ∧ r ≠ some g := by
  obtain ⟨A, c, e1, hB, ho⟩ := hw
  refine ⟨h.ne_ (g' := gw) hB h1, fun e => ?_⟩
  have := own_blkE h ho h2
  rw [own_map, ← e1] at this
  exact this e.symm
theorem ptrW_ne : 54 ≠ 57 ∧ 54 ≠ 5 := by decide
theorem tokT_ne : 60 ≠ 57 ∧ 60 ≠ 5 := by decide
/-- the writer's blocks turned -/
theorem EncIn.put {pc pw gk gw gc1 gc2 : Nat} {T1 T2 : List Tok} {W0 W W' : World} {L L' : List Bool} {F : Nat → Prop} {r r' : Option Nat} (h : EncIn pc pw gk gw gc1 gc2 T1 T2 W0 W L F) (hr : WrS W gw L r) (hF : ∀ x, F x ↔ x = gw ∨ r = some x) (hW : WrS W' gw L' r') (hu : Upd (fun b => b = gw ∨ r = some b) W W') :
    EncIn pc pw gk gw gc1 gc2 T1 T2 W0 W' L' (fun x => x = gw ∨ r' = some x) := by
  have hn := wrs_ne h.q hr ptrW_ne.1 ptrW_ne.2
  refine ⟨h.p, h.k, h.c1, h.c2, h.old, hu.ext h.b (fun y hy => ?_), hu.blk h.q (fun e => ?_), r', hW, fun x => Iff.rfl⟩
  · have := h.old
    rcases hy with rfl | e
    · exact this
    · have := (hr.row y e).1; omega
  · rcases e with e | e
    · exact hn.1 e
    · exact hn.2 e
theorem run_loadK (W : World) (p q : Addr) (h : W.cell? p = some (.pointer (some q))) : (Instr.loadAt 51 (.pointer (some p))).run Tryd.prog W = .ok (.pointer (some q)) W := by
  go_simp
theorem run_loadW (W : World) (p q : Addr) (h : W.cell? p = some (.pointer (some q))) : (Instr.loadAt 54 (.pointer (some p))).run Tryd.prog W = .ok (.pointer (some q)) W := by
  go_simp
section
variable {o : Oper} {a : Act}
theorem ex_loadK {x : Operand} (ho : o.op = .load 51 x) {p q : Addr} (hx : a.eval x = .pointer (some p)) {w : World} (h : w.cell? p = some (.pointer (some q))) : (execOp a.eval o).run Tryd.prog w = .ok (.value (.pointer (some q))) w := by
  simp [execOp, ho, hx, run_loadK w p q h]
theorem ex_loadW {x : Operand} (ho : o.op = .load 54 x) {p q : Addr} (hx : a.eval x = .pointer (some p)) {w : World} (h : w.cell? p = some (.pointer (some q))) : (execOp a.eval o).run Tryd.prog w = .ok (.value (.pointer (some q))) w := by
  simp [execOp, ho, hx, run_loadW w p q h]
end
theorem of_any (gk gc1 gc2 : Nat) (b : Bool) (w : World) (h : Blk w gk 115 #[.pointer (some ⟨gc1, 0, none⟩), .pointer (some ⟨gc2, 0, none⟩)]) :
    Calls Tryd.prog 25 #[.pointer (some ⟨gk, 0, none⟩), .bool b] w fun e w' => e = .returned (.pointer (some ⟨if b then gc1 else gc2, 0, none⟩)) ∧ w = w' := by
  have c0 : w.cell? ⟨gk, 0, none⟩ = some (.pointer (some ⟨gc1, 0, none⟩)) := h.cell 0
  have c1 : w.cell? ⟨gk, 1, none⟩ = some (.pointer (some ⟨gc2, 0, none⟩)) := h.cell 1
  cases b with
  | true =>
    go_enter Tryd.func25, Tryd.ntmps25
    go_wp2_with fail
    go_ret
    exact ⟨rfl, rfl⟩
  | false =>
    go_enter Tryd.func25, Tryd.ntmps25
    go_wp2_with fail
    go_ret
    exact ⟨rfl, rfl⟩
attribute [local irreducible] bitsT digs
set_option maxRecDepth 20000 in
set_option maxHeartbeats 2000000 in
theorem encFn_any (pc pw gk gw gc1 gc2 : Nat) (T1 T2 : List Tok) (f1 : FitT T1) (f2 : FitT T2) (W0 : World) (t : Tok) (b : Bool) (L : List Bool) (F : Nat → Prop) (w : World) (hC : (encStep T1 T2 L t b).2.length ≤ 1000000000) (hw : tokWf t) (h : EncIn pc pw gk gw gc1 gc2 T1 T2 W0 w L F) :
    Calls Tryd.prog 24 #[.agg (tokv t).toArray, .bool b, .pointer (some ⟨pc, 0, none⟩), .pointer (some ⟨pw, 0, none⟩)] w fun e w' => e = .returned (.int .i64 (encStep T1 T2 L t b).1) ∧ Upd F w w' ∧ ∃ F', EncIn pc pw gk gw gc1 gc2 T1 T2 W0 w' (encStep T1 T2 L t b).2 F' ∧ ∀ x, F' x → F x ∨ w.heap.size ≤ x := by
  obtain ⟨t1, t2, t3⟩ := t
  obtain ⟨h1, h2, h3, h4, h5, h6⟩ := hw
  dsimp only at h1 h2 h3 h4 h5 h6
  obtain ⟨wd, hwd⟩ : ∃ m : Nat, t2 = (m : Int) := ⟨t2.toNat, by omega⟩
  obtain ⟨vl, hvl⟩ : ∃ m : Nat, t3 = (m : Int) := ⟨t3.toNat, by omega⟩
  subst hwd hvl
  have hv2 : vl < 2 ^ wd := by rw [Int.toNat_natCast] at h6; exact_mod_cast h6
  have hHC : Hid ((encStep T1 T2 L (t1, (wd : Int), (vl : Int)) b).2.length ≤ 1000000000) := hid_ hC
  obtain ⟨r, hr, hF⟩ := h.r
  obtain ⟨T, hT⟩ : ∃ T, T = if b then T1 else T2 := ⟨_, rfl⟩
  obtain ⟨gc, hgc⟩ : ∃ g, g = if b then gc1 else gc2 := ⟨_, rfl⟩
  have hfit : FitT T := by rw [hT]; cases b <;> assumption
  have hcs : CoderS W0 gc T := by
    rw [hT, hgc]
    cases b with
    | true => exact h.c1
    | false => exact h.c2
  have HE : Hid (encStep T1 T2 L (t1, (wd : Int), (vl : Int)) b = match findT T t1 with | none => (5, L) | some _ => (0, L ++ bitsT T t1 ++ digs vl wd)) := hid_ (by unfold encStep; rw [hT]; rfl)
  generalize encStep T1 T2 L (t1, (wd : Int), (vl : Int)) b = R at *
  cases hf : findT T t1 with
  | none =>
    rw [hf] at HE
    have HPUT := hid_ (fun W (hc : CoderS W gc T) => coderPut_no gc gw T t1 W hc hf (by omega) (by omega))
    have HX := hid_ (fun W (hx : Ext w W) => h.ext hx)
    have HCX := hid_ (fun W (hx : Ext w W) => hcs.ext (h.b.trans hx))
    have HOF0 := hid_ (fun W (hx : Ext w W) => of_any gk gc1 gc2 b W (h.k.ext (h.b.trans hx)))
    rw [← hgc] at HOF0
    have HPC0 := hid_ (fun W (hx : Ext w W) => (h.p.ext (h.b.trans hx)).cell 0)
    have HPW0 := hid_ (fun W (hx : Ext w W) => (h.q.ext hx).cell 0)
    clear hC hT hgc hfit hcs hf h hr hF
    go_enter Tryd.func24, Tryd.ntmps24
    go_wp2_with (show wpList _ _ _ (⟨some 4, _, _, _, _, _⟩ :: _) _ _; refine wpList_box_abs rfl 60 (.tmp 0) rfl #[.int .i64 t1, .int .i64 (wd : Int), .int .i64 (vl : Int)] rfl ?_; intro w1 g1 hb1 hx1 hg1)
    have HOF := hid_ (fun W (hx : Ext w1.drew W) => ((HOF0.out W ((hx1.drew).trans hx)).mono (fun e w' ⟨e1, e2⟩ => ⟨e1, e2 ▸ Ext.refl _⟩) : Calls Tryd.prog 25 #[.pointer (some ⟨gk, 0, none⟩), .bool b] W fun e w' => e = .returned (.pointer (some ⟨gc, 0, none⟩)) ∧ Ext W w'))
    have HPC := hid_ (fun W (hx : Ext w1.drew W) => HPC0.out W ((hx1.drew).trans hx))
    have HPW := hid_ (fun W (hx : Ext w1.drew W) => HPW0.out W ((hx1.drew).trans hx))
    refine wp_region_lxt later_ext 6 (by kernel_rfl) (by kernel_rfl) ?_
    simp only [List.take_succ_cons, List.take_zero]
    refine lx_read (by rfl) (.pointer (some ⟨gk, 0, none⟩)) (fun W hW => ex_loadK rfl rfl (HPC.out W hW)) ?_
    simp only [Act.put, List.setIfInBounds_toArray, List.set_cons_succ, List.set_cons_zero]
    refine lx_run (by rfl) (.bool b) (ex_move rfl rfl) ?_
    simp only [Act.put, List.setIfInBounds_toArray, List.set_cons_succ, List.set_cons_zero]
    refine lx_callF (by rfl) 25 Tryd.func25 rfl rfl _ _ rfl #[.pointer (some ⟨gk, 0, none⟩), .bool b] (by simp [Act.eval]) (.pointer (some ⟨gc, 0, none⟩)) (fun W hW => HOF.out W hW) ?_
    simp only [Act.put, List.setIfInBounds_toArray, List.set_cons_succ, List.set_cons_zero]
    refine lx_read (by rfl) (.pointer (some ⟨gw, 0, none⟩)) (fun W hW => ex_loadW rfl rfl (HPW.out W hW)) ?_
    simp only [Act.put, List.setIfInBounds_toArray, List.set_cons_succ, List.set_cons_zero]
    refine lx_ex (by rfl) ?_; apply Exists.intro; refine ⟨fun w hw => ?_, ?_⟩; · (go_simp; with_reducible rfl)
    simp only [Act.put, List.setIfInBounds_toArray, List.set_cons_succ, List.set_cons_zero]
    refine lx_read (by rfl) (.int .i64 t1) (fun W hW => ex_loadI rfl rfl ((hb1.ext (Ext.trans (Ext.refl w1).drew hW)).cell 0)) ?_
    simp only [Act.put, List.setIfInBounds_toArray, List.set_cons_succ, List.set_cons_zero]
    refine lx_nil ?_
    intro w2 hx2
    try simp only [List.drop_succ_cons, List.drop_zero]
    have hx2' := (hx1.drew).trans hx2
    go_wp2_with (go_at_call 26; (with_reducible refine (HPUT.out _ (HCX.out _ hx2')).mono ?_); rintro e w3 ⟨rfl, hx3⟩)
    go_ret
    rw [HE.out]
    have hx3' := hx2'.trans hx3
    exact ⟨rfl, upd_of_ext hx3', F, HX.out _ hx3', fun x k => .inl k⟩
  | some u =>
    rw [hf] at HE
    obtain ⟨long, code, rfl, l1, l2, l3⟩ := hfit t1 u hf
    have hLb : (L ++ digs code long ++ digs vl wd).length ≤ 1000000000 := by
      have h0 := hHC.out
      rw [HE.out, bitsT_some hf] at h0
      exact h0
    have hL1 : (L ++ digs code long).length ≤ 1000000000 := by rw [List.length_append] at hLb; omega
    have hL0 : L.length ≤ 1000000000 := by rw [List.length_append] at hL1; omega
    have HPUT := hid_ (fun W (hc : CoderS W gc T) (hW : WrS W gw L r) => coderPut_yes gc gw T L r t1 long code W hc hW hf (by omega) (by omega) (by omega) l3 (by omega))
    have HPU2 := hid_ (fun W r' (hW : WrS W gw (L ++ digs code long) r') => put_any gw (L ++ digs code long) r' vl wd W hW (by omega) hv2 (by omega))
    have HX := hid_ (fun W (hx : Ext w W) => h.ext hx)
    have HCX := hid_ (fun W (hx : Ext w W) => hcs.ext (h.b.trans hx))
    have HWX := hid_ (fun W (hx : Ext w W) => hr.ext hx)
    have HOF0 := hid_ (fun W (hx : Ext w W) => of_any gk gc1 gc2 b W (h.k.ext (h.b.trans hx)))
    rw [← hgc] at HOF0
    have HPC0 := hid_ (fun W (hx : Ext w W) => (h.p.ext (h.b.trans hx)).cell 0)
    have HPW0 := hid_ (fun W (hx : Ext w W) => (h.q.ext hx).cell 0)
    have HR1 : Hid (R = (0, L ++ digs code long ++ digs vl wd)) := hid_ (by rw [HE.out, bitsT_some hf])
    have HFF := hid_ hF
    have hgwlt := hr.lt
    clear hC hT hgc hfit hcs hf hF hLb hL1 hL0 HE hHC
    go_enter Tryd.func24, Tryd.ntmps24
    go_wp2_with (show wpList _ _ _ (⟨some 4, _, _, _, _, _⟩ :: _) _ _; refine wpList_box_abs rfl 60 (.tmp 0) rfl #[.int .i64 t1, .int .i64 (wd : Int), .int .i64 (vl : Int)] rfl ?_; intro w1 g1 hb1 hx1 hg1)
    have HOF := hid_ (fun W (hx : Ext w1.drew W) => ((HOF0.out W ((hx1.drew).trans hx)).mono (fun e w' ⟨e1, e2⟩ => ⟨e1, e2 ▸ Ext.refl _⟩) : Calls Tryd.prog 25 #[.pointer (some ⟨gk, 0, none⟩), .bool b] W fun e w' => e = .returned (.pointer (some ⟨gc, 0, none⟩)) ∧ Ext W w'))
    have HPC := hid_ (fun W (hx : Ext w1.drew W) => HPC0.out W ((hx1.drew).trans hx))
    have HPW := hid_ (fun W (hx : Ext w1.drew W) => HPW0.out W ((hx1.drew).trans hx))
    refine wp_region_lxt later_ext 6 (by kernel_rfl) (by kernel_rfl) ?_
    simp only [List.take_succ_cons, List.take_zero]
    refine lx_read (by rfl) (.pointer (some ⟨gk, 0, none⟩)) (fun W hW => ex_loadK rfl rfl (HPC.out W hW)) ?_
    simp only [Act.put, List.setIfInBounds_toArray, List.set_cons_succ, List.set_cons_zero]
    refine lx_run (by rfl) (.bool b) (ex_move rfl rfl) ?_
    simp only [Act.put, List.setIfInBounds_toArray, List.set_cons_succ, List.set_cons_zero]
    refine lx_callF (by rfl) 25 Tryd.func25 rfl rfl _ _ rfl #[.pointer (some ⟨gk, 0, none⟩), .bool b] (by simp [Act.eval]) (.pointer (some ⟨gc, 0, none⟩)) (fun W hW => HOF.out W hW) ?_
    simp only [Act.put, List.setIfInBounds_toArray, List.set_cons_succ, List.set_cons_zero]
    refine lx_read (by rfl) (.pointer (some ⟨gw, 0, none⟩)) (fun W hW => ex_loadW rfl rfl (HPW.out W hW)) ?_
    simp only [Act.put, List.setIfInBounds_toArray, List.set_cons_succ, List.set_cons_zero]
    refine lx_ex (by rfl) ?_; apply Exists.intro; refine ⟨fun w hw => ?_, ?_⟩; · (go_simp; with_reducible rfl)
    simp only [Act.put, List.setIfInBounds_toArray, List.set_cons_succ, List.set_cons_zero]
    refine lx_read (by rfl) (.int .i64 t1) (fun W hW => ex_loadI rfl rfl ((hb1.ext (Ext.trans (Ext.refl w1).drew hW)).cell 0)) ?_
    simp only [Act.put, List.setIfInBounds_toArray, List.set_cons_succ, List.set_cons_zero]
    refine lx_nil ?_
    intro w2 hx2
    try simp only [List.drop_succ_cons, List.drop_zero]
    have hx2' := (hx1.drew).trans hx2
    have hb2 := hb1.drew.ext hx2
    have hI2 := HX.out _ hx2'
    have hW2 := HWX.out _ hx2'
    have hn2 := wrs_ne hb2 hW2 tokT_ne.1 tokT_ne.2
    go_wp2_with (first
      | (go_at_call 26; (with_reducible refine (HPUT.out _ (HCX.out _ hx2') hW2).mono ?_); rintro e w3 ⟨rfl, r3, hW3, hrr3, hu3⟩; have hI3 := hI2.put hW2 HFF.out hW3 hu3; have hb3 := hu3.blk hb2 (fun e => e.elim hn2.1 hn2.2); have q1 : w3.cell? ⟨g1, 1, none⟩ = some (.int .i64 (wd : Int)) := hb3.cell 1; have q2 : w3.cell? ⟨g1, 2, none⟩ = some (.int .i64 (vl : Int)) := hb3.cell 2; have q3 : w3.cell? ⟨pw, 0, none⟩ = some (.pointer (some ⟨gw, 0, none⟩)) := hI3.q.cell 0)
      | (go_at_call 27; (with_reducible refine (HPU2.out _ _ hW3).mono ?_); rintro e w4 ⟨rfl, r4, hW4, hrr4, hu4⟩))
    go_ret
    rw [HR1.out]
    have hI4 := hI3.put hW3 (fun x => Iff.rfl) hW4 hu4
    have hs2 := hx2'.size
    have hs3 := hu3.size
    refine ⟨rfl, ?_, _, hI4, ?_⟩
    · refine ((upd_of_ext (S := F) hx2').trans hu3 (fun x hx => .inl ((HFF.out x).2 hx))).trans hu4 (fun x hx => ?_)
      rcases hx with e | e
      · exact .inl ((HFF.out x).2 (.inl e))
      · rcases hrr3 with e3 | ⟨y, e3, hy⟩
        · exact .inl ((HFF.out x).2 (.inr (e3 ▸ e)))
        · rw [e3] at e
          have := Option.some.inj e
          exact .inr (by omega)
    · intro x hx
      rcases hx with e | e
      · exact .inl ((HFF.out x).2 (.inl e))
      · rcases hrr4 with e4 | ⟨y, e4, hy⟩
        · rw [e4] at e
          rcases hrr3 with e3 | ⟨y, e3, hy⟩
          · exact .inl ((HFF.out x).2 (.inr (e3 ▸ e)))
          · rw [e3] at e
            have := Option.some.inj e
            exact .inr (by omega)
        · rw [e4] at e
          have := Option.some.inj e
          exact .inr (by omega)
theorem goesEnc : Goes Tryd.prog 24 := ⟨_, Tryd.func24, by kernel_rfl, by kernel_rfl⟩
theorem encEat (pc pw gk gw gc1 gc2 : Nat) (T1 T2 : List Tok) (f1 : FitT T1) (f2 : FitT T2) (W0 : World) : Eat 24 #[.pointer (some ⟨pc, 0, none⟩), .pointer (some ⟨pw, 0, none⟩)] (EncIn pc pw gk gw gc1 gc2 T1 T2 W0) (encStep T1 T2) (fun L => L.length ≤ 1000000000) :=
  ⟨goesEnc, fun l s h => Nat.le_trans (encGo_len T1 T2 l s) h, fun t b s F W hC hw h => by simpa using encFn_any pc pw gk gw gc1 gc2 T1 T2 f1 f2 W0 t b s F W hC hw h, fun s F W W' h hx => h.ext hx, fun s F W x h hx => by
    obtain ⟨r, hr, hF⟩ := h.r
    rcases (hF x).1 hx with rfl | e
    · exact hr.lt
    · exact (hr.row x e).2⟩
end Go.Proofs.YtgmddhljgfbibaaDoor
