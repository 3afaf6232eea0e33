/- Contracts for the law ScanEncodesCard, part 13: what the functions that it reaches answer, for all arguments that the theorems name. -/
import Derived.ChangeSlices
import Derived.Test.YtgmddhljgfbibaaDoorMScanEncodesCard8
import Derived.Test.YtgmddhljgfbibaaDoorMScanEncodesCard10
import Derived.Test.YtgmddhljgfbibaaDoorMScanEncodesCard12
import Derived.Test.YtgmddhljgfbibaaDoorMScanEncodesCard9
import Derived.Great.Walk
import Derived.Test.YtgmddhljgfbibaaDoorMScanEncodesCard4
import Derived.Test.YtgmddhljgfbibaaDoorMScanEncodesCard11
/- Opening a parameter: a list of integers, a table. -/
namespace Go.Proofs.YtgmddhljgfbibaaDoor
set_option linter.unusedVariables false
set_option linter.unusedSimpArgs false
open Go.RowKit Go.ChangeShapes Go.WideShapes Go.ChangeAt
section
variable {H : Type} {enc : TypeId × Value → H} {w : World} {base : Nat} {spare : Nat → Bool} {held : Bool}
theorem open_intsX {fuel : Nat} {cs : List Value} {x : DataW H × List MemPlace} (h : DataW.trod enc Tryd.prog w base spare held fuel 30 cs = some x) :
    ∃ (zs : List Int) (v : Value), cs = [v] ∧ SL w 1 v zs.length (ints zs) ∧ ∀ z ∈ zs, inI64 z := by
  rcases open_ints Tryd.underlying30 Tryd.underlying3 cellsInt h with ⟨rfl, -⟩ | ⟨a, len, cap, zs, rfl, -, hlc, hcm, hzl, -, hcell, hwf⟩
  · exact ⟨[], _, rfl, SL.nil w 1, by simp⟩
  · have hlen : len ≤ zs.length := by rw [hzl]; split <;> omega
    refine ⟨zs.take len, _, rfl, ?_, fun z hz => inI64_of_wf (hwf z (List.mem_of_mem_take hz))⟩
    have hl : (zs.take len).length = len := by rw [List.length_take]; omega
    rw [hl]
    refine ⟨some a, cap, rfl, hlc, by unfold maxLen at hcm; omega, by rw [ints_len, hl]; omega, fun h0 => ⟨a, rfl, ?_, fun j u hu => ?_⟩⟩
    · have := hcell 0 (by omega)
      have h2 := World.block_lt_of_cell? w _ this
      rwa [block_of_add] at h2
    · obtain ⟨hj, rfl⟩ := ints_at _ _ _ hu
      have hj2 : j < len := by omega
      rw [hcell j (by omega)]
      simp [List.getD_eq_getElem?_getD, show j < zs.length by omega]
theorem cells16 : Tryd.prog.cellsOf 29 = 16 := by kernel_rfl
theorem cellsSl : Tryd.prog.cellsOf 30 = 1 := by kernel_rfl
theorem cellsTbl : Tryd.prog.cellsOf 32 = 17 := by kernel_rfl
set_option maxRecDepth 20000 in
theorem open_table {b0 : Nat} {r : Reach} {v : Value} {d : DataW H} {p : List MemPlace} (hv : Value.okWide Tryd.prog w r b0 32 v) (h : DataW.Trod enc Tryd.prog w base spare held 32 v d p) :
    ∃ (zs xs : List Int) (sl : Value), v = .agg (tblv zs sl) ∧ zs.length = 16 ∧ (∀ z ∈ zs, inI64 z) ∧ SL w 1 sl xs.length (ints xs) ∧ ∀ z ∈ xs, inI64 z := by
  obtain ⟨cs, rfl, hsz⟩ := okWide_struct Tryd.underlying32 hv
  obtain ⟨fuel, hf⟩ := h
  obtain ⟨y0, y1, n, -, hlen, h0, h1⟩ := trod_struct2 Tryd.underlying32 hf
  have hL : cs.toList.length = 17 := by rw [show cs.toList.length = cs.size by simp, hsz, cellsTbl]
  have hcs : (Value.agg cs).cells.toList = cs.toList := rfl
  rw [hcs] at h0 h1
  dsimp only at h0 h1
  obtain ⟨zs, hz, hc, hq⟩ := trod_ints_arr Tryd.underlying29 Tryd.underlying3 cellsInt cells16 h0
  obtain ⟨xs, sl, hs, hsl, hxq⟩ := open_intsX h1
  rw [cells16, List.drop_zero] at hc
  rw [cellsSl] at hs
  refine ⟨zs, xs, sl, ?_, hz, hq, hsl, hxq⟩
  have e2 : cs.toList.drop 16 = [sl] := by
    rw [← hs]
    rw [List.take_of_length_le (by rw [List.length_drop, hL]; omega)]
  have e : cs.toList = ints zs ++ [sl] := by
    rw [← hc, ← e2, List.take_append_drop]
  congr 1
  apply Array.ext'
  rw [e]
  simp [tblv]
end
end Go.Proofs.YtgmddhljgfbibaaDoor
/- Coder.Put, table.Encode. -/
namespace Go.Proofs.YtgmddhljgfbibaaDoor
set_option linter.unusedVariables false
set_option linter.unusedSimpArgs false
open Go.RowKit Go.Maps Go.WideMaps
theorem zero_word (w : World) : (zeroValue 117).run Tryd.prog w = .ok (.agg #[.int .i64 0, .int .i64 0, .int .i64 0]) w := by kernel_rfl
theorem symF_some {T : List Tok} {s : Int} {t : Tok} (h : findT T s = some t) : symF T s = some (.agg #[.int .i64 t.1, .int .i64 t.2.1, .int .i64 t.2.2]) := by
  unfold symF; unfold findT at h; rw [h]; rfl
theorem symF_none {T : List Tok} {s : Int} (h : findT T s = none) : symF T s = none := by
  unfold symF; unfold findT at h; rw [h]; rfl
set_option maxHeartbeats 400000 in
theorem coderPut_no (gc gw : Nat) (T : List Tok) (s : Int) (w : World) (hc : CoderS w gc T) (hf : findT T s = none) (h0 : -9223372036854775808 ≤ s) (h1 : s ≤ 9223372036854775807) :
    Calls Tryd.prog 26 #[.pointer (some ⟨gc, 0, none⟩), .pointer (some ⟨gw, 0, none⟩), .int .i64 s] w fun e w' => e = .returned (.bool false) ∧ Ext w w' := by
  obtain ⟨m1, m2, n, hB, hm1, hm2⟩ := hc
  have c0 := hB.cell 0
  simp only [List.getElem?_toArray, List.getElem?_cons_zero] at c0
  have HS := hid_ (symF_none hf)
  have hkey := hid_ (keyOf_i64 (P := Tryd.prog) Tryd.underlying3 h0 h1)
  clear hf
  go_enter Tryd.func26, Tryd.ntmps26
  go_wp2_with (at_lookup; refine wpList_look_ok_g (by rfl) _ _ 119 117 rfl keyed_int Tryd.underlying119 _ (zero_word _) rfl hm1 _ rfl s trivial hkey.out (.agg #[.int .i64 0, .int .i64 0, .int .i64 0]) (by rw [HS.out]; rfl) false (by rw [HS.out]; rfl) ?_)
  go_ret
  exact ⟨rfl, (Ext.refl w).alloc _⟩
set_option maxHeartbeats 400000 in
theorem coderPut_yes (gc gw : Nat) (T : List Tok) (L : List Bool) (r : Option Nat) (s : Int) (long code : Nat) (w : World) (hc : CoderS w gc T) (hw : WrS w gw L r) (hf : findT T s = some (s, (long : Int), (code : Int))) (h0 : -9223372036854775808 ≤ s) (h1 : s ≤ 9223372036854775807)
    (hlong : long ≤ 24) (hcode : code < 2 ^ long) (hl : L.length ≤ 1000000000000) :
    Calls Tryd.prog 26 #[.pointer (some ⟨gc, 0, none⟩), .pointer (some ⟨gw, 0, none⟩), .int .i64 s] w fun e w' => e = .returned (.bool true) ∧
      ∃ r', WrS w' gw (L ++ digs code long) r' ∧ (r' = r ∨ ∃ b, r' = some b ∧ w.heap.size ≤ b) ∧ Upd (fun b => b = gw ∨ r = some b) w w' := by
  obtain ⟨m1, m2, n, hB, hm1, hm2⟩ := hc
  have c0 := hB.cell 0
  simp only [List.getElem?_toArray, List.getElem?_cons_zero] at c0
  have HS := hid_ (symF_some hf)
  simp only at HS
  have HP := hid_ (fun W (hW : WrS W gw L r) => put_any gw L r code long W hW hlong hcode hl)
  have hkey := hid_ (keyOf_i64 (P := Tryd.prog) Tryd.underlying3 h0 h1)
  clear hf hcode
  generalize digs code long = D at *
  go_enter Tryd.func26, Tryd.ntmps26
  go_wp2_with (first
    | (at_lookup; refine wpList_look_ok_g (by rfl) _ _ 119 117 rfl keyed_int Tryd.underlying119 _ (zero_word _) rfl hm1 _ rfl s trivial hkey.out (.agg #[.int .i64 s, .int .i64 (long : Int), .int .i64 (code : Int)]) (by rw [HS.out]; rfl) true (by rw [HS.out]; rfl) ?_)
    | (go_at_call 27; (with_reducible refine (HP.out _ (hw.ext ((Ext.refl w).alloc _))).mono ?_); rintro e w5 ⟨rfl, r', hW5, hrr, hu5⟩))
  go_ret
  exact ⟨rfl, r', hW5, hrr.imp id (fun ⟨b, h1, h2⟩ => ⟨b, h1, by rw [World.size_alloc] at h2; omega⟩), (Upd.of_ext (S := fun b => b = gw ∨ r = some b) ((Ext.refl w).alloc _)).trans hu5 (fun x hx => .inl hx)⟩
def encL (T : List Tok) (syms : List Int) : List Bool := syms.flatMap (bitsT T)
theorem encL_succ (T : List Tok) (syms : List Int) (k : Nat) (h : k < syms.length) : encL T (syms.take (k + 1)) = encL T (syms.take k) ++ bitsT T syms[k] := by
  unfold encL
  rw [List.take_succ_eq_append_getElem h, List.flatMap_append]
  simp
theorem encL_len {T : List Tok} (hf : FitT T) (syms : List Int) : (encL T syms).length ≤ 16 * syms.length := by
  induction syms with
  | nil => simp [encL]
  | cons s l ih =>
    have := bitsT_len hf s
    simp only [encL, List.flatMap_cons, List.length_append, List.length_cons] at ih ⊢
    omega
def allT (T : List Tok) (syms : List Int) : Bool := syms.all fun s => (findT T s).isSome
/-- what Encode answers -/
def encZ (cs xs syms : List Int) : List Nat × Int :=
  if checkZ cs xs = 0 then (if syms.length ≤ 20000 then (if allT (zipC (codesW cs 16) xs) syms then (packB (padB (encL (zipC (codesW cs 16) xs) syms)), 0) else ([], 5)) else ([], 2)) else ([], checkZ cs xs)
theorem allT_no {T : List Tok} {syms : List Int} {k : Nat} (hk : k < syms.length) (h : findT T syms[k] = none) : allT T syms = false := by
  rw [← Bool.not_eq_true]
  intro h2
  have := List.all_eq_true.1 h2 _ (List.getElem_mem hk)
  simp [h] at this
theorem allT_yes {T : List Tok} {syms : List Int} (h : ∀ s ∈ syms, (findT T s).isSome = true) : allT T syms = true := List.all_eq_true.2 h
end Go.Proofs.YtgmddhljgfbibaaDoor
/- The closure of seg.Encode as one that eats tokens. -/
namespace Go.Proofs.YtgmddhljgfbibaaDoor
set_option linter.unusedVariables false
set_option linter.unusedSimpArgs false
open Go.RowKit
/-- one more token's digits -/
def encStep (T1 T2 : List Tok) (L : List Bool) (t : Tok) (b : Bool) : Int × List Bool :=
  match findT (if b then T1 else T2) t.1 with
  | none => (5, L)
  | some _ => (0, L ++ bitsT (if b then T1 else T2) t.1 ++ digs t.2.2.toNat t.2.1.toNat)
theorem encStep_len (T1 T2 : List Tok) (L : List Bool) (t : Tok) (b : Bool) : L.length ≤ (encStep T1 T2 L t b).2.length := by
  unfold encStep
  split
  · exact Nat.le_refl _
  · simp only [List.length_append]; omega
theorem encGo_len (T1 T2 : List Tok) : ∀ (l : List (Tok × Bool)) (L : List Bool), L.length ≤ (eatGo (encStep T1 T2) l L).2.length
  | [], L => Nat.le_refl _
  | (t, b) :: r, L => by
    have h1 := encStep_len T1 T2 L t b
    by_cases h0 : (encStep T1 T2 L t b).1 = 0
    · rw [eatGo_ok h0]; exact Nat.le_trans h1 (encGo_len T1 T2 r _)
    · rw [eatGo_err h0]; exact h1
theorem encGo_bd {T1 T2 : List Tok} (f1 : FitT T1) (f2 : FitT T2) : ∀ (l : List (Tok × Bool)) (L : List Bool), (∀ t ∈ l, tokWf t.1) → (eatGo (encStep T1 T2) l L).2.length ≤ L.length + 28 * l.length
  | [], L, _ => by simp [eatGo]
  | (t, b) :: r, L, h => by
    have hw := h (t, b) (by simp)
    obtain ⟨-, -, w1, w2, -, -⟩ := hw
    dsimp only at w1 w2
    have h1 : (encStep T1 T2 L t b).2.length ≤ L.length + 28 := by
      unfold encStep
      split
      · simp
      · have h2 : (bitsT (if b then T1 else T2) t.1).length ≤ 16 := by
          cases b with
          | true => exact bitsT_len f1 _
          | false => exact bitsT_len f2 _
        simp only [List.length_append, digs_len]
        omega
    by_cases h0 : (encStep T1 T2 L t b).1 = 0
    · rw [eatGo_ok h0]
      have := encGo_bd f1 f2 r (encStep T1 T2 L t b).2 (fun u hu => h u (by simp [hu]))
      simp only [List.length_cons]
      omega
    · rw [eatGo_err h0]
      simp only [List.length_cons]
      omega
/-- a writer, the coders, and where the closure finds them; W0: before the writer was made -/
structure EncIn (pc pw gk gw gc1 gc2 : Nat) (T1 T2 : List Tok) (W0 W : World) (L : List Bool) (F : Nat → Prop) : Prop where
  p : Blk W0 pc 51 #[.pointer (some ⟨gk, 0, none⟩)]
  k : Blk W0 gk 115 #[.pointer (some ⟨gc1, 0, none⟩), .pointer (some ⟨gc2, 0, none⟩)]
  c1 : CoderS W0 gc1 T1
  c2 : CoderS W0 gc2 T2
  old : W0.heap.size ≤ gw
  b : Ext W0 W
  q : Blk W pw 54 #[.pointer (some ⟨gw, 0, none⟩)]
  r : ∃ r, WrS W gw L r ∧ ∀ x, F x ↔ x = gw ∨ r = some x
theorem EncIn.ext {pc pw gk gw gc1 gc2 : Nat} {T1 T2 : List Tok} {W0 W W' : World} {L : List Bool} {F : Nat → Prop} (h : EncIn pc pw gk gw gc1 gc2 T1 T2 W0 W L F) (hx : Ext W W') : EncIn pc pw gk gw gc1 gc2 T1 T2 W0 W' L F := by
  obtain ⟨r, hr, hF⟩ := h.r
  exact ⟨h.p, h.k, h.c1, h.c2, h.old, h.b.trans hx, h.q.ext hx, r, hr.ext hx, hF⟩
theorem own_blkE {w : World} {g base size n : Nat} {T e : TypeId} {cs : Array Value} {v : Value} {xs : List Value} (h : Blk w g T cs) (ho : w.ownsRow base e size v n xs) (hne : T ≠ e) : some g ≠ v.ownBlock := by
  obtain ⟨-, hh⟩ := ho
  rcases hh with ⟨rfl, -⟩ | ⟨k, cap, cur, rfl, -, hg, -⟩
  · simp [Value.ownBlock]
  · intro e1
    have : g = k := by simpa [Value.ownBlock] using e1
    subst this
    exact (h.ne_ (g' := g) (cs' := cur) hg hne) rfl
theorem wrs_ne {w : World} {g gw : Nat} {T : TypeId} {cs : Array Value} {L : List Bool} {r : Option Nat} (h : Blk w g T cs) (hw : WrS w gw L r) (h1 : T ≠ 57) (h2 : T ≠ 5) : g ≠ gw ∧ r ≠ some g := by
  obtain ⟨A, c, e1, hB, ho⟩ := hw
  refine ⟨h.ne_ (g' := gw) hB h1, fun e => ?_⟩
  have := own_blkE h ho h2
  rw [own_map, ← e1] at this
  exact this e.symm
theorem ptrW_ne : 54 ≠ 57 ∧ 54 ≠ 5 := by decide
theorem tokT_ne : 60 ≠ 57 ∧ 60 ≠ 5 := by decide
/-- the writer's blocks turned -/
theorem EncIn.put {pc pw gk gw gc1 gc2 : Nat} {T1 T2 : List Tok} {W0 W W' : World} {L L' : List Bool} {F : Nat → Prop} {r r' : Option Nat} (h : EncIn pc pw gk gw gc1 gc2 T1 T2 W0 W L F) (hr : WrS W gw L r) (hF : ∀ x, F x ↔ x = gw ∨ r = some x) (hW : WrS W' gw L' r') (hu : Upd (fun b => b = gw ∨ r = some b) W W') :
    EncIn pc pw gk gw gc1 gc2 T1 T2 W0 W' L' (fun x => x = gw ∨ r' = some x) := by
  have hn := wrs_ne h.q hr ptrW_ne.1 ptrW_ne.2
  refine ⟨h.p, h.k, h.c1, h.c2, h.old, hu.ext h.b (fun y hy => ?_), hu.blk h.q (fun e => ?_), r', hW, fun x => Iff.rfl⟩
  · have := h.old
    rcases hy with rfl | e
    · exact this
    · have := (hr.row y e).1; omega
  · rcases e with e | e
    · exact hn.1 e
    · exact hn.2 e
theorem run_loadK (W : World) (p q : Addr) (h : W.cell? p = some (.pointer (some q))) : (Instr.loadAt 51 (.pointer (some p))).run Tryd.prog W = .ok (.pointer (some q)) W := by
  go_simp
theorem run_loadW (W : World) (p q : Addr) (h : W.cell? p = some (.pointer (some q))) : (Instr.loadAt 54 (.pointer (some p))).run Tryd.prog W = .ok (.pointer (some q)) W := by
  go_simp
section
variable {o : Oper} {a : Act}
theorem ex_loadK {x : Operand} (ho : o.op = .load 51 x) {p q : Addr} (hx : a.eval x = .pointer (some p)) {w : World} (h : w.cell? p = some (.pointer (some q))) : (execOp a.eval o).run Tryd.prog w = .ok (.value (.pointer (some q))) w := by
  simp [execOp, ho, hx, run_loadK w p q h]
theorem ex_loadW {x : Operand} (ho : o.op = .load 54 x) {p q : Addr} (hx : a.eval x = .pointer (some p)) {w : World} (h : w.cell? p = some (.pointer (some q))) : (execOp a.eval o).run Tryd.prog w = .ok (.value (.pointer (some q))) w := by
  simp [execOp, ho, hx, run_loadW w p q h]
end
theorem of_any (gk gc1 gc2 : Nat) (b : Bool) (w : World) (h : Blk w gk 115 #[.pointer (some ⟨gc1, 0, none⟩), .pointer (some ⟨gc2, 0, none⟩)]) :
    Calls Tryd.prog 25 #[.pointer (some ⟨gk, 0, none⟩), .bool b] w fun e w' => e = .returned (.pointer (some ⟨if b then gc1 else gc2, 0, none⟩)) ∧ w = w' := by
  have c0 : w.cell? ⟨gk, 0, none⟩ = some (.pointer (some ⟨gc1, 0, none⟩)) := h.cell 0
  have c1 : w.cell? ⟨gk, 1, none⟩ = some (.pointer (some ⟨gc2, 0, none⟩)) := h.cell 1
  cases b with
  | true =>
    go_enter Tryd.func25, Tryd.ntmps25
    go_wp2_with fail
    go_ret
    exact ⟨rfl, rfl⟩
  | false =>
    go_enter Tryd.func25, Tryd.ntmps25
    go_wp2_with fail
    go_ret
    exact ⟨rfl, rfl⟩
attribute [local irreducible] bitsT digs
set_option maxRecDepth 20000 in
set_option maxHeartbeats 2000000 in
theorem encFn_any (pc pw gk gw gc1 gc2 : Nat) (T1 T2 : List Tok) (f1 : FitT T1) (f2 : FitT T2) (W0 : World) (t : Tok) (b : Bool) (L : List Bool) (F : Nat → Prop) (w : World) (hC : (encStep T1 T2 L t b).2.length ≤ 1000000000) (hw : tokWf t) (h : EncIn pc pw gk gw gc1 gc2 T1 T2 W0 w L F) :
    Calls Tryd.prog 24 #[.agg (tokv t).toArray, .bool b, .pointer (some ⟨pc, 0, none⟩), .pointer (some ⟨pw, 0, none⟩)] w fun e w' => e = .returned (.int .i64 (encStep T1 T2 L t b).1) ∧ Upd F w w' ∧ ∃ F', EncIn pc pw gk gw gc1 gc2 T1 T2 W0 w' (encStep T1 T2 L t b).2 F' ∧ ∀ x, F' x → F x ∨ w.heap.size ≤ x := by
  obtain ⟨t1, t2, t3⟩ := t
  obtain ⟨h1, h2, h3, h4, h5, h6⟩ := hw
  dsimp only at h1 h2 h3 h4 h5 h6
  obtain ⟨wd, hwd⟩ : ∃ m : Nat, t2 = (m : Int) := ⟨t2.toNat, by omega⟩
  obtain ⟨vl, hvl⟩ : ∃ m : Nat, t3 = (m : Int) := ⟨t3.toNat, by omega⟩
  subst hwd hvl
  have hv2 : vl < 2 ^ wd := by rw [Int.toNat_natCast] at h6; exact_mod_cast h6
  have hHC : Hid ((encStep T1 T2 L (t1, (wd : Int), (vl : Int)) b).2.length ≤ 1000000000) := hid_ hC
  obtain ⟨r, hr, hF⟩ := h.r
  obtain ⟨T, hT⟩ : ∃ T, T = if b then T1 else T2 := ⟨_, rfl⟩
  obtain ⟨gc, hgc⟩ : ∃ g, g = if b then gc1 else gc2 := ⟨_, rfl⟩
  have hfit : FitT T := by rw [hT]; cases b <;> assumption
  have hcs : CoderS W0 gc T := by
    rw [hT, hgc]
    cases b with
    | true => exact h.c1
    | false => exact h.c2
  have HE : Hid (encStep T1 T2 L (t1, (wd : Int), (vl : Int)) b = match findT T t1 with | none => (5, L) | some _ => (0, L ++ bitsT T t1 ++ digs vl wd)) := hid_ (by unfold encStep; rw [hT]; rfl)
  generalize encStep T1 T2 L (t1, (wd : Int), (vl : Int)) b = R at *
  cases hf : findT T t1 with
  | none =>
    rw [hf] at HE
    have HPUT := hid_ (fun W (hc : CoderS W gc T) => coderPut_no gc gw T t1 W hc hf (by omega) (by omega))
    have HX := hid_ (fun W (hx : Ext w W) => h.ext hx)
    have HCX := hid_ (fun W (hx : Ext w W) => hcs.ext (h.b.trans hx))
    have HOF0 := hid_ (fun W (hx : Ext w W) => of_any gk gc1 gc2 b W (h.k.ext (h.b.trans hx)))
    rw [← hgc] at HOF0
    have HPC0 := hid_ (fun W (hx : Ext w W) => (h.p.ext (h.b.trans hx)).cell 0)
    have HPW0 := hid_ (fun W (hx : Ext w W) => (h.q.ext hx).cell 0)
    clear hC hT hgc hfit hcs hf h hr hF
    go_enter Tryd.func24, Tryd.ntmps24
    go_wp2_with (show wpList _ _ _ (⟨some 4, _, _, _, _, _⟩ :: _) _ _; refine wpList_box_abs rfl 60 (.tmp 0) rfl #[.int .i64 t1, .int .i64 (wd : Int), .int .i64 (vl : Int)] rfl ?_; intro w1 g1 hb1 hx1 hg1)
    have HOF := hid_ (fun W (hx : Ext w1.drew W) => ((HOF0.out W ((hx1.drew).trans hx)).mono (fun e w' ⟨e1, e2⟩ => ⟨e1, e2 ▸ Ext.refl _⟩) : Calls Tryd.prog 25 #[.pointer (some ⟨gk, 0, none⟩), .bool b] W fun e w' => e = .returned (.pointer (some ⟨gc, 0, none⟩)) ∧ Ext W w'))
    have HPC := hid_ (fun W (hx : Ext w1.drew W) => HPC0.out W ((hx1.drew).trans hx))
    have HPW := hid_ (fun W (hx : Ext w1.drew W) => HPW0.out W ((hx1.drew).trans hx))
    refine wp_region_lxt later_ext 6 (by kernel_rfl) (by kernel_rfl) ?_
    simp only [List.take_succ_cons, List.take_zero]
    refine lx_read (by rfl) (.pointer (some ⟨gk, 0, none⟩)) (fun W hW => ex_loadK rfl rfl (HPC.out W hW)) ?_
    simp only [Act.put, List.setIfInBounds_toArray, List.set_cons_succ, List.set_cons_zero]
    refine lx_run (by rfl) (.bool b) (ex_move rfl rfl) ?_
    simp only [Act.put, List.setIfInBounds_toArray, List.set_cons_succ, List.set_cons_zero]
    refine lx_callF (by rfl) 25 Tryd.func25 rfl rfl _ _ rfl #[.pointer (some ⟨gk, 0, none⟩), .bool b] (by simp [Act.eval]) (.pointer (some ⟨gc, 0, none⟩)) (fun W hW => HOF.out W hW) ?_
    simp only [Act.put, List.setIfInBounds_toArray, List.set_cons_succ, List.set_cons_zero]
    refine lx_read (by rfl) (.pointer (some ⟨gw, 0, none⟩)) (fun W hW => ex_loadW rfl rfl (HPW.out W hW)) ?_
    simp only [Act.put, List.setIfInBounds_toArray, List.set_cons_succ, List.set_cons_zero]
    refine lx_ex (by rfl) ?_; apply Exists.intro; refine ⟨fun w hw => ?_, ?_⟩; · (go_simp; with_reducible rfl)
    simp only [Act.put, List.setIfInBounds_toArray, List.set_cons_succ, List.set_cons_zero]
    refine lx_read (by rfl) (.int .i64 t1) (fun W hW => ex_loadI rfl rfl ((hb1.ext (Ext.trans (Ext.refl w1).drew hW)).cell 0)) ?_
    simp only [Act.put, List.setIfInBounds_toArray, List.set_cons_succ, List.set_cons_zero]
    refine lx_nil ?_
    intro w2 hx2
    try simp only [List.drop_succ_cons, List.drop_zero]
    have hx2' := (hx1.drew).trans hx2
    go_wp2_with (go_at_call 26; (with_reducible refine (HPUT.out _ (HCX.out _ hx2')).mono ?_); rintro e w3 ⟨rfl, hx3⟩)
    go_ret
    rw [HE.out]
    have hx3' := hx2'.trans hx3
    exact ⟨rfl, upd_of_ext hx3', F, HX.out _ hx3', fun x k => .inl k⟩
  | some u =>
    rw [hf] at HE
    obtain ⟨long, code, rfl, l1, l2, l3⟩ := hfit t1 u hf
    have hLb : (L ++ digs code long ++ digs vl wd).length ≤ 1000000000 := by
      have h0 := hHC.out
      rw [HE.out, bitsT_some hf] at h0
      exact h0
    have hL1 : (L ++ digs code long).length ≤ 1000000000 := by rw [List.length_append] at hLb; omega
    have hL0 : L.length ≤ 1000000000 := by rw [List.length_append] at hL1; omega
    have HPUT := hid_ (fun W (hc : CoderS W gc T) (hW : WrS W gw L r) => coderPut_yes gc gw T L r t1 long code W hc hW hf (by omega) (by omega) (by omega) l3 (by omega))
    have HPU2 := hid_ (fun W r' (hW : WrS W gw (L ++ digs code long) r') => put_any gw (L ++ digs code long) r' vl wd W hW (by omega) hv2 (by omega))
    have HX := hid_ (fun W (hx : Ext w W) => h.ext hx)
    have HCX := hid_ (fun W (hx : Ext w W) => hcs.ext (h.b.trans hx))
    have HWX := hid_ (fun W (hx : Ext w W) => hr.ext hx)
    have HOF0 := hid_ (fun W (hx : Ext w W) => of_any gk gc1 gc2 b W (h.k.ext (h.b.trans hx)))
    rw [← hgc] at HOF0
    have HPC0 := hid_ (fun W (hx : Ext w W) => (h.p.ext (h.b.trans hx)).cell 0)
    have HPW0 := hid_ (fun W (hx : Ext w W) => (h.q.ext hx).cell 0)
    have HR1 : Hid (R = (0, L ++ digs code long ++ digs vl wd)) := hid_ (by rw [HE.out, bitsT_some hf])
    have HFF := hid_ hF
    have hgwlt := hr.lt
    clear hC hT hgc hfit hcs hf hF hLb hL1 hL0 HE hHC
    go_enter Tryd.func24, Tryd.ntmps24
    go_wp2_with (show wpList _ _ _ (⟨some 4, _, _, _, _, _⟩ :: _) _ _; refine wpList_box_abs rfl 60 (.tmp 0) rfl #[.int .i64 t1, .int .i64 (wd : Int), .int .i64 (vl : Int)] rfl ?_; intro w1 g1 hb1 hx1 hg1)
    have HOF := hid_ (fun W (hx : Ext w1.drew W) => ((HOF0.out W ((hx1.drew).trans hx)).mono (fun e w' ⟨e1, e2⟩ => ⟨e1, e2 ▸ Ext.refl _⟩) : Calls Tryd.prog 25 #[.pointer (some ⟨gk, 0, none⟩), .bool b] W fun e w' => e = .returned (.pointer (some ⟨gc, 0, none⟩)) ∧ Ext W w'))
    have HPC := hid_ (fun W (hx : Ext w1.drew W) => HPC0.out W ((hx1.drew).trans hx))
    have HPW := hid_ (fun W (hx : Ext w1.drew W) => HPW0.out W ((hx1.drew).trans hx))
    refine wp_region_lxt later_ext 6 (by kernel_rfl) (by kernel_rfl) ?_
    simp only [List.take_succ_cons, List.take_zero]
    refine lx_read (by rfl) (.pointer (some ⟨gk, 0, none⟩)) (fun W hW => ex_loadK rfl rfl (HPC.out W hW)) ?_
    simp only [Act.put, List.setIfInBounds_toArray, List.set_cons_succ, List.set_cons_zero]
    refine lx_run (by rfl) (.bool b) (ex_move rfl rfl) ?_
    simp only [Act.put, List.setIfInBounds_toArray, List.set_cons_succ, List.set_cons_zero]
    refine lx_callF (by rfl) 25 Tryd.func25 rfl rfl _ _ rfl #[.pointer (some ⟨gk, 0, none⟩), .bool b] (by simp [Act.eval]) (.pointer (some ⟨gc, 0, none⟩)) (fun W hW => HOF.out W hW) ?_
    simp only [Act.put, List.setIfInBounds_toArray, List.set_cons_succ, List.set_cons_zero]
    refine lx_read (by rfl) (.pointer (some ⟨gw, 0, none⟩)) (fun W hW => ex_loadW rfl rfl (HPW.out W hW)) ?_
    simp only [Act.put, List.setIfInBounds_toArray, List.set_cons_succ, List.set_cons_zero]
    refine lx_ex (by rfl) ?_; apply Exists.intro; refine ⟨fun w hw => ?_, ?_⟩; · (go_simp; with_reducible rfl)
    simp only [Act.put, List.setIfInBounds_toArray, List.set_cons_succ, List.set_cons_zero]
    refine lx_read (by rfl) (.int .i64 t1) (fun W hW => ex_loadI rfl rfl ((hb1.ext (Ext.trans (Ext.refl w1).drew hW)).cell 0)) ?_
    simp only [Act.put, List.setIfInBounds_toArray, List.set_cons_succ, List.set_cons_zero]
    refine lx_nil ?_
    intro w2 hx2
    try simp only [List.drop_succ_cons, List.drop_zero]
    have hx2' := (hx1.drew).trans hx2
    have hb2 := hb1.drew.ext hx2
    have hI2 := HX.out _ hx2'
    have hW2 := HWX.out _ hx2'
    have hn2 := wrs_ne hb2 hW2 tokT_ne.1 tokT_ne.2
    go_wp2_with (first
      | (go_at_call 26; (with_reducible refine (HPUT.out _ (HCX.out _ hx2') hW2).mono ?_); rintro e w3 ⟨rfl, r3, hW3, hrr3, hu3⟩; have hI3 := hI2.put hW2 HFF.out hW3 hu3; have hb3 := hu3.blk hb2 (fun e => e.elim hn2.1 hn2.2); have q1 : w3.cell? ⟨g1, 1, none⟩ = some (.int .i64 (wd : Int)) := hb3.cell 1; have q2 : w3.cell? ⟨g1, 2, none⟩ = some (.int .i64 (vl : Int)) := hb3.cell 2; have q3 : w3.cell? ⟨pw, 0, none⟩ = some (.pointer (some ⟨gw, 0, none⟩)) := hI3.q.cell 0)
      | (go_at_call 27; (with_reducible refine (HPU2.out _ _ hW3).mono ?_); rintro e w4 ⟨rfl, r4, hW4, hrr4, hu4⟩))
    go_ret
    rw [HR1.out]
    have hI4 := hI3.put hW3 (fun x => Iff.rfl) hW4 hu4
    have hs2 := hx2'.size
    have hs3 := hu3.size
    refine ⟨rfl, ?_, _, hI4, ?_⟩
    · refine ((upd_of_ext (S := F) hx2').trans hu3 (fun x hx => .inl ((HFF.out x).2 hx))).trans hu4 (fun x hx => ?_)
      rcases hx with e | e
      · exact .inl ((HFF.out x).2 (.inl e))
      · rcases hrr3 with e3 | ⟨y, e3, hy⟩
        · exact .inl ((HFF.out x).2 (.inr (e3 ▸ e)))
        · rw [e3] at e
          have := Option.some.inj e
          exact .inr (by omega)
    · intro x hx
      rcases hx with e | e
      · exact .inl ((HFF.out x).2 (.inl e))
      · rcases hrr4 with e4 | ⟨y, e4, hy⟩
        · rw [e4] at e
          rcases hrr3 with e3 | ⟨y, e3, hy⟩
          · exact .inl ((HFF.out x).2 (.inr (e3 ▸ e)))
          · rw [e3] at e
            have := Option.some.inj e
            exact .inr (by omega)
        · rw [e4] at e
          have := Option.some.inj e
          exact .inr (by omega)
theorem goesEnc : Goes Tryd.prog 24 := ⟨_, Tryd.func24, by kernel_rfl, by kernel_rfl⟩
theorem encEat (pc pw gk gw gc1 gc2 : Nat) (T1 T2 : List Tok) (f1 : FitT T1) (f2 : FitT T2) (W0 : World) : Eat 24 #[.pointer (some ⟨pc, 0, none⟩), .pointer (some ⟨pw, 0, none⟩)] (EncIn pc pw gk gw gc1 gc2 T1 T2 W0) (encStep T1 T2) (fun L => L.length ≤ 1000000000) :=
  ⟨goesEnc, fun l s h => Nat.le_trans (encGo_len T1 T2 l s) h, fun t b s F W hC hw h => by simpa using encFn_any pc pw gk gw gc1 gc2 T1 T2 f1 f2 W0 t b s F W hC hw h, fun s F W W' h hx => h.ext hx, fun s F W x h hx => by
    obtain ⟨r, hr, hF⟩ := h.r
    rcases (hF x).1 hx with rfl | e
    · exact hr.lt
    · exact (hr.row x e).2⟩
end Go.Proofs.YtgmddhljgfbibaaDoor
/- Files: the value and where its parts lie. -/
namespace Go.Proofs.YtgmddhljgfbibaaDoor
set_option linter.unusedVariables false
set_option linter.unusedSimpArgs false
open Go.RowKit
def fileL (wd hi pt : Int) (qs : List Int) (t1 t2 : List Value) (ev : Int) (sd : Value) : List Value := ints [wd, hi, pt] ++ ints qs ++ t1 ++ t2 ++ [.int .i64 ev, sd]
theorem sizeTbls : (Tryd.prog.info? 34).map (·.size) = some 34 := by kernel_rfl
theorem zeroTbl : (Tryd.prog.info? 32).bind (·.zero) = some (.agg (ints (List.replicate 16 0) ++ [Value.slice none 0 0]).toArray) := by kernel_rfl
theorem range_part {w : World} {g : Nat} {T : TypeId} {a m b : List Value} (h : Blk w g T (a ++ (m ++ b)).toArray) : w.rangeAt g a.length m := by
  intro j v hv
  rw [h.cell, List.getElem?_toArray, List.getElem?_append_right (by omega), Nat.add_sub_cancel_left, List.getElem?_append_left (List.getElem?_eq_some_iff.1 hv).1]
  exact hv
/-- a file lies in block g -/
structure FileB (w : World) (g : Nat) (wd hi pt : Int) (qs : List Int) (t1 t2 : List Value) (ev : Int) (sd : Value) : Prop where
  c0 : w.cell? ⟨g, 0, none⟩ = some (.int .i64 wd)
  c1 : w.cell? ⟨g, 1, none⟩ = some (.int .i64 hi)
  c2 : w.cell? ⟨g, 2, none⟩ = some (.int .i64 pt)
  q : w.rangeAt g 3 (ints qs)
  ta : w.rangeAt g 67 t1
  tb : w.rangeAt g 84 t2
  tt : w.rangeAt g 67 (t1 ++ t2)
  c101 : w.cell? ⟨g, 101, none⟩ = some (.int .i64 ev)
  c102 : w.cell? ⟨g, 102, none⟩ = some sd
theorem fileB {w : World} {g : Nat} {T : TypeId} {wd hi pt : Int} {qs : List Int} {t1 t2 : List Value} {ev : Int} {sd : Value} (h : Blk w g T (fileL wd hi pt qs t1 t2 ev sd).toArray) (hq : qs.length = 64) (h1 : t1.length = 17) (h2 : t2.length = 17) :
    FileB w g wd hi pt qs t1 t2 ev sd := by
  have hql := (ints_len qs).trans hq
  have r0 : w.rangeAt g 0 (ints [wd, hi, pt]) := range_part (a := []) (m := ints [wd, hi, pt]) (b := ints qs ++ t1 ++ t2 ++ [.int .i64 ev, sd]) (T := T) (by simpa [fileL] using h)
  have r1 := range_part (a := ints [wd, hi, pt]) (m := ints qs) (b := t1 ++ t2 ++ [.int .i64 ev, sd]) (T := T) (w := w) (g := g) (by simpa [fileL] using h)
  have r2 := range_part (a := ints [wd, hi, pt] ++ ints qs) (m := t1) (b := t2 ++ [.int .i64 ev, sd]) (T := T) (w := w) (g := g) (by simpa [fileL] using h)
  have r3 := range_part (a := ints [wd, hi, pt] ++ ints qs ++ t1) (m := t2) (b := [.int .i64 ev, sd]) (T := T) (w := w) (g := g) (by simpa [fileL] using h)
  have r4 := range_part (a := ints [wd, hi, pt] ++ ints qs) (m := t1 ++ t2) (b := [.int .i64 ev, sd]) (T := T) (w := w) (g := g) (by simpa [fileL] using h)
  have r5 := range_part (a := ints [wd, hi, pt] ++ ints qs ++ t1 ++ t2) (m := [.int .i64 ev, sd]) (b := []) (T := T) (w := w) (g := g) (by simpa [fileL] using h)
  simp only [List.length_append, hql, h1, h2, ints_len, List.length_cons, List.length_nil] at r1 r2 r3 r4 r5
  exact ⟨r0 0 _ rfl, r0 1 _ rfl, r0 2 _ rfl, r1, r2, r3, r4, r5 0 _ rfl, r5 1 _ rfl⟩
theorem fileL_len (wd hi pt : Int) (qs : List Int) (t1 t2 : List Value) (ev : Int) (sd : Value) (hq : qs.length = 64) (h1 : t1.length = 17) (h2 : t2.length = 17) : (fileL wd hi pt qs t1 t2 ev sd).toArray.size = 103 := by
  simp [fileL, ints_len, hq, h1, h2]
/-- a table's cells -/
def tblL (cs : List Int) (sl : Value) : List Value := ints cs ++ [sl]
theorem tblv_tblL (cs : List Int) (sl : Value) : tblv cs sl = (tblL cs sl).toArray := rfl
theorem tblL_len (cs : List Int) (sl : Value) (h : cs.length = 16) : (tblL cs sl).length = 17 := by simp [tblL, ints_len, h]
set_option maxRecDepth 20000 in
theorem built2 (t1 t2 : List Value) (h1 : t1.length = 17) (h2 : t2.length = 17) : Tryd.prog.builtSlice 32 2 [(0, .agg t1.toArray), (1, .agg t2.toArray)] = some (t1 ++ t2).toArray := by
  match t1, h1 with
  | [a0, a1, a2, a3, a4, a5, a6, a7, a8, a9, a10, a11, a12, a13, a14, a15, a16], _ =>
    match t2, h2 with
    | [b0, b1, b2, b3, b4, b5, b6, b7, b8, b9, b10, b11, b12, b13, b14, b15, b16], _ =>
      show _ = _
      kernel_rfl
theorem wpList_load_mid_g {P : Program} {ops : Array Oper} {rest : List Oper} {op : Oper} {a : Act} {w : World} {Q : Exit → Act → World → Prop} (hw : Region.wanted op (yielded ops a.tmps) = true) (ty : TypeId) (x : Operand) (ho : op.op = .load ty x)
    (b o : Nat) (hx : a.eval x = .pointer (some ⟨b, o, none⟩)) (cs : List Value) (d : TypeDesc) (hc : w.rangeAt b o cs)
    (hu : P.underlying ty = some d) (hd : d.isRow = true) (hi : (P.info? ty).map (·.size) = some cs.length)
    (h : wpList P ops Q rest (a.put op.dst (.agg cs.toArray)) w) : wpList P ops Q (op :: rest) a w :=
  wpList_wanted hw fun _ hK => wp_load_mid ty x ho b o hx cs d hc hu hd hi (hK _ _ h)
theorem range_two {w : World} {g : Nat} {T : TypeId} {t1 t2 : List Value} (h1 : t1.length = 17) (h : Blk w g T (t1 ++ t2).toArray) : w.rangeAt g 0 t1 ∧ w.rangeAt g 17 t2 := by
  refine ⟨range_part (a := []) (m := t1) (b := t2) (T := T) (by simpa using h), ?_⟩
  have := range_part (a := t1) (m := t2) (b := []) (T := T) (w := w) (g := g) (by simpa using h)
  rwa [h1] at this
/-- the results of Check -/
def argsOK (wd hi pt ev : Int) : Bool := inB wd 1 64 && inB hi 1 64 && (pt == 1 || pt == 3) && inB ev 0 100
def fcheckZ (wd hi pt : Int) (qs : List Int) (z1 z2 : Int) (ev : Int) (n : Nat) : Int :=
  if argsOK wd hi pt ev && allIn qs 1 255 then (if z1 = 0 then (if z2 = 0 then (if 90000 < n then 2 else 0) else z2) else z1) else 1
end Go.Proofs.YtgmddhljgfbibaaDoor
