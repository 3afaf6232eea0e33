/- Contracts for the law SegDecodesUptoCard, part 4: what the functions that it reaches answer, for all arguments that the theorems name. -/
import Derived.Maps.OwnSet
import Derived.Test.YtgmddhljgfbibaaDoorMSegDecodesUptoCard1
import Derived.Deep.QuietTactic
import Derived.BigQuiet
import Derived.Test.YtgmddhljgfbibaaDoorMSegDecodesUptoCard2
import Derived.Maps.AppendAt
import Derived.Test.YtgmddhljgfbibaaDoorMSegDecodesUptoCard3
/- Maps that the call makes: elements as they are, read as a function of the keys. -/
namespace Go.Proofs.YtgmddhljgfbibaaDoor
set_option linter.unusedVariables false
set_option linter.unusedSimpArgs false
open Go.RowKit Go.Maps
/-- an element reads as itself -/
def VR (v : Value) : Option (DataW Value × List MemPlace) := some (.held v, [])
/-- block b is a map of at most n entries; at the key of i it holds g i -/
def MapG {ι : Type} (P : Program) (k : TypeId) (kl : ι → Lit) (ok : ι → Prop) (w : World) (b n : Nat) (g : ι → Option Value) : Prop :=
  ∃ D : DataW Value, w.ownsMap P k VR b n D ∧ IsMap D ∧ ∀ i, ok i → Maps.has D (kl i) = (g i).isSome ∧ ∀ z, D.atKey (kl i) (.held z) = .held ((g i).getD z)
section
variable {ι : Type} {P : Program} {k : TypeId} {kl : ι → Lit} {ok : ι → Prop} {w w' : World} {b n : Nat} {g : ι → Option Value}
theorem MapG.made (w : World) : MapG P k kl ok (w.alloc (.map #[] 0)) w.heap.size 0 (fun _ => none) :=
  ⟨.map [], World.ownsMap_made _ _ _ _, isMap_empty, fun _ _ => ⟨rfl, fun _ => rfl⟩⟩
theorem MapG.lt (h : MapG P k kl ok w b n g) : b < w.heap.size := by obtain ⟨D, h1, -⟩ := h; exact h1.lt
theorem MapG.alloc (h : MapG P k kl ok w b n g) (o : Obj) : MapG P k kl ok (w.alloc o) b n g := by
  obtain ⟨D, h1, h2⟩ := h; exact ⟨D, h1.alloc o, h2⟩
theorem MapG.ext (h : MapG P k kl ok w b n g) (hx : Ext w w') : MapG P k kl ok w' b n g := by
  obtain ⟨D, ⟨es, clock, hb, r⟩, h2⟩ := h
  refine ⟨D, ⟨es, clock, (hx.block b ?_).trans hb, r⟩, h2⟩
  exact World.ownsMap.lt (R := VR) ⟨es, clock, hb, r⟩
theorem MapG.grown {row : Option Nat} (h : MapG P k kl ok w b n g) (hg : w.grownBy w' row) (hne : some b ≠ row) : MapG P k kl ok w' b n g := by
  obtain ⟨D, h1, h2⟩ := h; exact ⟨D, h1.kept hg hne, h2⟩
theorem MapG.below {B : Nat} (h : MapG P k kl ok w b n g) (hx : Below B w w') (hb : b < B) : MapG P k kl ok w' b n g := by
  obtain ⟨D, ⟨es, clock, h3, r⟩, h2⟩ := h
  exact ⟨D, ⟨es, clock, (hx.block b hb).trans h3, r⟩, h2⟩
theorem MapG.setCell (h : MapG P k kl ok w b n g) {a : Addr} (ha : b ≠ a.block) (u : Value) : MapG P k kl ok (w.setCell a u) b n g := by
  obtain ⟨D, h1, h2⟩ := h; exact ⟨D, h1.setCell ha u, h2⟩
theorem MapG.mono (h : MapG P k kl ok w b n g) {m : Nat} (hm : n ≤ m) : MapG P k kl ok w b m g := by
  obtain ⟨D, h1, h2⟩ := h; exact ⟨D, h1.mono hm, h2⟩
variable {ops : Array Oper} {rest : List Oper} {o : Oper} {a : Act} {Q : Exit → Act → World → Prop}
theorem wpList_look_g (hw : Region.wanted o (yielded ops a.tmps) = true) (m x : Operand) (t e : TypeId) (hop : o.op = Op.lookup t m x false) (K : Keyed P k) (ht : P.underlying t = some (.map k e))
    (z : Value) (hz : (zeroValue e).run P w = .ok z w) (hm : a.eval m = .map (some b)) (h : MapG P k kl ok w b n g) (key : Value) (hx : a.eval x = key)
    (i : ι) (hi : ok i) (hk : keyOf P k key = some (kl i)) (u : Value) (hu : (g i).getD z = u) (hK : wpList P ops Q rest (a.put o.dst u) w) : wpList P ops Q (o :: rest) a w := by
  refine wpList_wanted hw fun K' hK' => ?_
  obtain ⟨D, h1, -, h2⟩ := h
  obtain ⟨v, ps, hrun, hv⟩ := h1.lookup K ht hz (zd := .held z) (zp := []) rfl hk
  rw [(h2 i hi).2 z, hu] at hv
  have : v = u := by unfold VR at hv; injection hv with hv; injection hv with hv _; injection hv
  subst this
  unfold Oper.wp
  simp [execOp, hop, hm, hx, hrun, Result.andThen]
  exact hK' _ _ hK
theorem wpList_look_ok_g (hw : Region.wanted o (yielded ops a.tmps) = true) (m x : Operand) (t e : TypeId) (hop : o.op = Op.lookup t m x true) (K : Keyed P k) (ht : P.underlying t = some (.map k e))
    (z : Value) (hz : (zeroValue e).run P w = .ok z w) (hm : a.eval m = .map (some b)) (h : MapG P k kl ok w b n g) (key : Value) (hx : a.eval x = key)
    (i : ι) (hi : ok i) (hk : keyOf P k key = some (kl i)) (u : Value) (hu : (g i).getD z = u) (c : Bool) (hc : (g i).isSome = c) (hK : wpList P ops Q rest (a.put o.dst (.tuple #[u, .bool c])) w) : wpList P ops Q (o :: rest) a w := by
  refine wpList_wanted hw fun K' hK' => ?_
  obtain ⟨D, h1, -, h2⟩ := h
  obtain ⟨v, ps, hrun, hv⟩ := h1.look_ok K ht hz (zd := .held z) (zp := []) rfl hk
  rw [(h2 i hi).2 z, hu] at hv
  rw [(h2 i hi).1, hc] at hrun
  have : v = u := by unfold VR at hv; injection hv with hv; injection hv with hv _; injection hv
  subst this
  unfold Oper.wp
  simp [execOp, hop, hm, hx, hrun, Result.andThen]
  exact hK' _ _ hK
theorem wpList_upd_g (hw : Region.wanted o (yielded ops a.tmps) = true) (m x y : Operand) (t e : TypeId) (hop : o.op = Op.mapUpdate t m x y) (K : Keyed P k) (ht : P.underlying t = some (.map k e))
    (hm : a.eval m = .map (some b)) (h : MapG P k kl ok w b n g) (hn : n < 9223372036854775807) (key : Value) (hx : a.eval x = key) (v : Value) (hy : a.eval y = v)
    (i : ι) (hk : keyOf P k key = some (kl i)) (g' : ι → Option Value) (h1 : g' i = some v) (h2 : ∀ j, ok j → kl j ≠ kl i → g' j = g j) (h3 : ∀ j, ok j → kl j = kl i → j = i)
    (hK : ∀ w', MapG P k kl ok w' b (n + 1) g' → w.grownBy w' (some b) → wpList P ops Q rest (a.put o.dst undef) w') : wpList P ops Q (o :: rest) a w := by
  refine wpList_wanted hw fun K' hK' => ?_
  obtain ⟨D, d1, d3, d2⟩ := h
  obtain ⟨w', hrun, r1, r2⟩ := d1.update K ht (by unfold maxLen; omega) hk (val := v) (d := .held v) (ps := []) rfl
  unfold Oper.wp
  simp [execOp, hop, hm, hx, hy, hrun, Result.andThen]
  refine hK' _ _ (hK w' ⟨_, r1, d3.put _ _, fun j hj => ?_⟩ r2)
  by_cases e1 : kl j = kl i
  · obtain rfl := h3 j hj e1
    rw [has_put_same d3 (K.key hk), h1]
    exact ⟨rfl, fun z => atKey_put_same d3 (K.key hk) _ _⟩
  · rw [has_put_other e1, h2 j hj e1]
    exact ⟨(d2 j hj).1, fun z => by rw [atKey_put_other e1]; exact (d2 j hj).2 z⟩
end
/-- integer keys -/
abbrev MapI (P : Program) (k : TypeId) (w : World) (b n : Nat) (g : Int → Option Value) : Prop := MapG P k (fun x : Int => Lit.int .i64 x) (fun _ => True) w b n g
theorem keyOf_i64 {P : Program} {k : TypeId} (hk : P.underlying k = some (.int .i64)) {a : Int} (h0 : -9223372036854775808 ≤ a) (h1 : a ≤ 9223372036854775807) : keyOf P k (.int .i64 a) = some (.int .i64 a) :=
  keyOf_int_mk hk (WalkArith.wf_i64 ⟨by omega, by omega⟩)
theorem ext_grown_new {a w w' : World} (h : Ext a w) {g : Nat} (hg : w.grownBy w' (some g)) (hB : a.heap.size ≤ g) : Ext a w' := h.grown hg hB
end Go.Proofs.YtgmddhljgfbibaaDoor
/- Rows of three integers: tokens. Eq on equal lists of them. -/
namespace Go.Proofs.YtgmddhljgfbibaaDoor
set_option linter.unusedVariables false
set_option linter.unusedSimpArgs false
open Go.RowKit
abbrev Tok := Int × Int × Int
def tokv (t : Tok) : List Value := [.int .i64 t.1, .int .i64 t.2.1, .int .i64 t.2.2]
def toks (T : List Tok) : List Value := T.flatMap tokv
theorem toks_len (T : List Tok) : (toks T).length = T.length * 3 := by
  induction T with
  | nil => rfl
  | cons t T ih => simp only [toks, List.flatMap_cons, List.length_append] at ih ⊢; rw [ih]; simp [tokv]; omega
theorem toks_app (T U : List Tok) : toks (T ++ U) = toks T ++ toks U := by simp [toks]
theorem toks_at (T : List Tok) (k : Nat) (h : k < T.length) :
    (toks T)[k * 3]? = some (.int .i64 T[k].1) ∧ (toks T)[k * 3 + 1]? = some (.int .i64 T[k].2.1) ∧ (toks T)[k * 3 + 2]? = some (.int .i64 T[k].2.2) := by
  induction T generalizing k with
  | nil => simp at h
  | cons t T ih =>
    have e : toks (t :: T) = tokv t ++ toks T := by simp [toks]
    rw [e]
    cases k with
    | zero => simp [tokv]
    | succ k =>
      have h2 : k < T.length := by simpa using h
      obtain ⟨a, b, c⟩ := ih k h2
      refine ⟨?_, ?_, ?_⟩
      · rw [List.getElem?_append_right (by simp [tokv]; omega), show (k + 1) * 3 - (tokv t).length = k * 3 by simp [tokv]; omega, a]; simp
      · rw [List.getElem?_append_right (by simp [tokv]; omega), show (k + 1) * 3 + 1 - (tokv t).length = k * 3 + 1 by simp [tokv]; omega, b]; simp
      · rw [List.getElem?_append_right (by simp [tokv]; omega), show (k + 1) * 3 + 2 - (tokv t).length = k * 3 + 2 by simp [tokv]; omega, c]; simp
theorem addr_next (ad : Addr) (i j : Nat) (hj : 0 < j) : (⟨(ad.add i).block, (ad.add i).off + j, none⟩ : Addr) = ad.add (i + j) := by
  unfold Addr.add
  rw [if_neg (show ¬ i + j = 0 by omega)]
  split
  · next h => subst h; simp
  · simp; omega
theorem SL.tok {w : World} {A : Option Addr} {n c : Nat} {T : List Tok} {k : Nat} (h : SL w 3 (.slice A n c) n (toks T)) (hk : k < n) (hn : T.length = n) (hkl : k < T.length) :
    ∃ ad, A = some ad ∧ ad.block < w.heap.size ∧ w.cell? (ad.add (k * 3)) = some (.int .i64 T[k].1) ∧ w.cell? ⟨(ad.add (k * 3)).block, (ad.add (k * 3)).off + 1, none⟩ = some (.int .i64 T[k].2.1) ∧ w.cell? ⟨(ad.add (k * 3)).block, (ad.add (k * 3)).off + 2, none⟩ = some (.int .i64 T[k].2.2) := by
  obtain ⟨A', c', e, _, _, h2, h3⟩ := h
  injection e with e1 e2 e3
  subst e1
  obtain ⟨ad, ea, hb, hc⟩ := h3 (by omega)
  obtain ⟨a, b, d⟩ := toks_at T k hkl
  exact ⟨ad, ea, hb, hc _ _ a, by rw [addr_next _ _ 1 (by omega)]; exact hc _ _ b, by rw [addr_next _ _ 2 (by omega)]; exact hc _ _ d⟩
set_option maxHeartbeats 400000 in
theorem eqTok_same (u v : Value) (T : List Tok) (w : World) (hu : SL w 3 u T.length (toks T)) (hv : SL w 3 v T.length (toks T)) :
    Calls Tryd.prog 70 #[u, v] w fun e w' => e = .returned (.bool true) ∧ Ext w w' := by
  have hu' := hu
  have hv' := hv
  obtain ⟨A, c, rfl, hc1, hc2, -, -⟩ := hu'
  obtain ⟨B, d, rfl, hd1, hd2, -, -⟩ := hv'
  go_enter Tryd.func70, Tryd.ntmps70
  go_wp2_with fail
  go_loopw [14] (fun i wr => ∃ k : Nat, k ≤ T.length ∧ i = .int .i64 k ∧ Ext w wr) (fun i _ => T.length - (intOf i).toNat)
  case atStart => exact ⟨0, by omega, rfl, Ext.refl w⟩
  case round =>
    obtain ⟨k, hk, rfl, hx⟩ := hrel
    by_cases hlt : k < T.length
    · obtain ⟨ad, rfl, -, h1, h2, h3⟩ := (hu.ext hx).tok hlt rfl hlt
      obtain ⟨bd, rfl, hbl, g1, g2, g3⟩ := (hv.ext hx).tok hlt rfl hlt
      generalize T[k] = t at *
      obtain ⟨t1, t2, t3⟩ := t
      go_wp2_with (refine wpList_alloc_abs' rfl (some 6) rfl 60 rfl _ (by kernel_rfl) ?_; intro w2 g2 hb2 hx2 hg2)
      have hxa := Ext.alloc (Ext.refl wr) (.cells #[.int .i64 t1, .int .i64 t2, .int .i64 t3] 60)
      have hn := Blk.new wr 60 #[.int .i64 t1, .int .i64 t2, .int .i64 t3]
      have n1 := hn.cell 0
      have n2 := hn.cell 1
      have n3 := hn.cell 2
      simp only [show (#[Value.int .i64 t1, .int .i64 t2, .int .i64 t3] : Array Value)[0]? = some (.int .i64 t1) from rfl] at n1
      simp only [show (#[Value.int .i64 t1, .int .i64 t2, .int .i64 t3] : Array Value)[1]? = some (.int .i64 t2) from rfl] at n2
      simp only [show (#[Value.int .i64 t1, .int .i64 t2, .int .i64 t3] : Array Value)[2]? = some (.int .i64 t3) from rfl] at n3
      have k1 := (hxa.cell (p := bd.add (k * 3)) (by rw [block_of_add]; exact hbl)).trans g1
      have k2 := (hxa.cell (p := ⟨(bd.add (k * 3)).block, (bd.add (k * 3)).off + 1, none⟩) (by show (bd.add (k * 3)).block < _; rw [block_of_add]; exact hbl)).trans g2
      have k3 := (hxa.cell (p := ⟨(bd.add (k * 3)).block, (bd.add (k * 3)).off + 2, none⟩) (by show (bd.add (k * 3)).block < _; rw [block_of_add]; exact hbl)).trans g3
      have hx2 := hx.trans hxa
      clear h1 h2 h3 g1 g2 g3 hn hxa
      generalize hw2 : wr.alloc (.cells #[.int .i64 t1, .int .i64 t2, .int .i64 t3] 60) = w2 at *
      clear hw2
      generalize wr.heap.size = gn at *
      go_quiet (fail)
      go_wp2_with fail
      go_roundw
      case rel => exact ⟨k + 1, by omega, by go_num, hx2.trans (below_drewN (Ext.refl w2) nq)⟩
      case measure => simp [intOf]; omega
    · go_wp2_with fail
      go_ret
      exact ⟨rfl, hx⟩
end Go.Proofs.YtgmddhljgfbibaaDoor
/- append onto a row of the call's own. -/
namespace Go.Proofs.YtgmddhljgfbibaaDoor
set_option linter.unusedVariables false
set_option linter.unusedSimpArgs false
open Go.RowKit
section
variable {P : Program} (w : World)
theorem run_append_of_nil (base : Nat) (t ty e : TypeId) (i : TypeInfo) (size : Nat) (ht : P.underlying t = some (.slice e)) (hi : P.info? e = some i)
    (v : Value) (n : Nat) (xs : List Value) (hown : w.ownsRow base e size v n xs) (c : Nat) : (Builtin.append_ #[t, t] ty #[v, .slice none 0 c]).run P w = .ok v w := by
  rcases hown.2 with ⟨rfl, rfl⟩ | ⟨g, cap, cur, rfl, _, _, hnc, _⟩
  · simp [Builtin.append_, run_underlying ht, sizeOf, typeInfo, hi, Builtin.lenOf, Builtin.firstCells]
  · simp [Builtin.append_, run_underlying ht, sizeOf, typeInfo, hi, Builtin.lenOf, Builtin.firstCells, hnc, storeCells]
theorem run_append_sl (base : Nat) (t ty e : TypeId) (i : TypeInfo) (z : Value) (size bytes : Nat) (ht : P.underlying t = some (.slice e)) (hi : P.info? e = some i) (hz : i.zero = some z)
    (hsize : i.size = size) (hby : i.bytes = bytes) (hzs : z.cells.size = size) (hsz : 0 < size)
    (v : Value) (n : Nat) (xs : List Value) (hown : w.ownsRow base e size v n xs)
    (x : Value) (m : Nat) (news : List Value) (hr : SL w size x m news) (h1 : ∀ u ∈ news, u.oneCell' = true)
    (h63 : n + m ≤ maxLen) (hbytes : (n + m) * bytes ≤ 140737488355328) (hbase : base ≤ w.heap.size) :
    ∃ v' w', (Builtin.append_ #[t, t] ty #[v, x]).run P w = .ok v' w' ∧ w'.ownsRow base e size v' (n + m) (xs ++ news) ∧ w.grownBy w' v.ownBlock ∧
      (v'.ownBlock = v.ownBlock ∨ v'.ownBlock = some w.heap.size) := by
  obtain ⟨A, c, rfl, -, -, hl, hc⟩ := hr
  rcases A with _ | ad
  · have hm : m = 0 := by
      rcases Nat.eq_zero_or_pos m with h0 | h0
      · exact h0
      · obtain ⟨ad, h, _⟩ := hc h0
        cases h
    subst hm
    have hn : news = [] := List.eq_nil_of_length_eq_zero (by simpa using hl)
    subst hn
    exact ⟨v, w, run_append_of_nil w base t ty e i size ht hi v n xs hown c, by simpa using hown, World.grownBy.refl w _, .inl rfl⟩
  · have hcells : ∀ j u, news[j]? = some u → w.cell? (ad.add j) = some u := by
      intro j u hu
      rcases Nat.eq_zero_or_pos m with h0 | h0
      · subst h0
        have hn : news = [] := List.eq_nil_of_length_eq_zero (by simpa using hl)
        subst hn
        simp at hu
      · obtain ⟨ad', h, _, hcc⟩ := hc h0
        injection h with h
        subst h
        exact hcc j u hu
    obtain ⟨v', w', hrun, h2, h3, _, h5⟩ := run_append_own_at (P := P) w base t ty e i z size bytes ht hi hz hsize hby hzs hsz v n xs hown ad m c news hl hcells h1 h63 hbytes hbase
    exact ⟨v', w', hrun, h2, h3, h5⟩
theorem wp_append_sl {o : Oper} {a : Act} {K : Act → World → Prop} {Q : Exit → Act → World → Prop} (s x : Operand) (t : TypeId)
    (ho : o.op = .call { callee := .builtin .append, args := #[s, x], argTypes := #[t, t] })
    (base : Nat) (e : TypeId) (i : TypeInfo) (z : Value) (size bytes : Nat) (ht : P.underlying t = some (.slice e)) (hi : P.info? e = some i) (hz : i.zero = some z)
    (hsize : i.size = size) (hby : i.bytes = bytes) (hzs : z.cells.size = size) (hsz : 0 < size)
    (v : Value) (n : Nat) (xs : List Value) (hs : a.eval s = v) (hown : w.ownsRow base e size v n xs)
    (u : Value) (m : Nat) (news : List Value) (hx : a.eval x = u) (hr : SL w size u m news) (h1 : ∀ u ∈ news, u.oneCell' = true)
    (h63 : n + m ≤ maxLen) (hbytes : (n + m) * bytes ≤ 140737488355328) (hbase : base ≤ w.heap.size)
    (h : ∀ v' w', w'.ownsRow base e size v' (n + m) (xs ++ news) → w.grownBy w' v.ownBlock → (v'.ownBlock = v.ownBlock ∨ v'.ownBlock = some w.heap.size) → K (a.put o.dst v') w') : o.wp P a w K Q := by
  obtain ⟨v', w', hrun, h2, h3, h4⟩ := run_append_sl (P := P) w base t o.type e i z size bytes ht hi hz hsize hby hzs hsz v n xs hown u m news hr h1 h63 hbytes hbase
  unfold Oper.wp execOp
  simp only [ho, resolve, invoke, builtin, Sem.run_bind, Sem.run_pure, Result.andThen_ok, List.map_toArray, List.map_cons, List.map_nil, hs, hx, hrun]
  exact h v' w' h2 h3 h4
/-- the words of one element type, said once -/
structure Elt (P : Program) (t e : TypeId) (size bytes : Nat) : Prop where
  ht : P.underlying t = some (.slice e)
  hi : (P.info? e).map (fun i => (i.zero.map fun z => z.cells.size, i.size, i.bytes)) = some (some size, size, bytes)
  hsz : 0 < size
variable {w}
theorem wpList_append_sl {ops : Array Oper} {rest : List Oper} {o : Oper} {a : Act} {Q : Exit → Act → World → Prop} {t e : TypeId} {size bytes : Nat} (he : Elt P t e size bytes) (hgd : o.guard = none) (s x : Operand)
    (ho : o.op = .call { callee := .builtin .append, args := #[s, x], argTypes := #[t, t] })
    (base : Nat) (v : Value) (n : Nat) (xs : List Value) (hs : a.eval s = v) (hown : w.ownsRow base e size v n xs)
    (u : Value) (m : Nat) (news : List Value) (hx : a.eval x = u) (hr : SL w size u m news) (h1 : ∀ u ∈ news, u.oneCell' = true)
    (h63 : n + m ≤ 9223372036854775807) (hbytes : (n + m) * bytes ≤ 140737488355328) (hbase : base ≤ w.heap.size)
    (h : ∀ v' w', w'.ownsRow base e size v' (n + m) (xs ++ news) → Below base w w' → wpList P ops Q rest (a.put o.dst v') w') : wpList P ops Q (o :: rest) a w := by
  obtain ⟨ht, hi, hsz⟩ := he
  cases hq : P.info? e with
  | none => simp [hq] at hi
  | some i =>
    cases hzq : i.zero with
    | none => simp [hq, hzq] at hi
    | some z =>
      have hi' : z.cells.size = size ∧ i.size = size ∧ i.bytes = bytes := by simpa [hq, hzq] using hi
      refine wpList_plain hgd fun _ hK => wp_append_sl w s x t ho base e i z size bytes ht hq hzq hi'.2.1 hi'.2.2 hi'.1 hsz v n xs hs hown u m news hx hr h1 (by unfold maxLen; omega) hbytes hbase fun v' w' h2 h3 h4 => hK _ _ (h v' w' h2 ?_)
      exact (Below.refl base w).grown h3 hbase (fun k hk => ((hown.lt k hk).1))
theorem wpList_append_slr {ops : Array Oper} {rest : List Oper} {o : Oper} {a : Act} {Q : Exit → Act → World → Prop} {t e : TypeId} {size bytes : Nat} (he : Elt P t e size bytes) (hgd : o.guard = none) (s x : Operand)
    (ho : o.op = .call { callee := .builtin .append, args := #[s, x], argTypes := #[t, t] })
    (base : Nat) (v : Value) (n : Nat) (xs : List Value) (hs : a.eval s = v) (hown : w.ownsRow base e size v n xs)
    (u : Value) (m : Nat) (news : List Value) (hx : a.eval x = u) (hr : SL w size u m news) (h1 : ∀ u ∈ news, u.oneCell' = true)
    (h63 : n + m ≤ 9223372036854775807) (hbytes : (n + m) * bytes ≤ 140737488355328) (hbase : base ≤ w.heap.size)
    (h : ∀ v' w', w'.ownsRow base e size v' (n + m) (xs ++ news) → w.grownBy w' v.ownBlock → (v'.ownBlock = v.ownBlock ∨ v'.ownBlock = some w.heap.size) → wpList P ops Q rest (a.put o.dst v') w') : wpList P ops Q (o :: rest) a w := by
  obtain ⟨ht, hi, hsz⟩ := he
  cases hq : P.info? e with
  | none => simp [hq] at hi
  | some i =>
    cases hzq : i.zero with
    | none => simp [hq, hzq] at hi
    | some z =>
      have hi' : z.cells.size = size ∧ i.size = size ∧ i.bytes = bytes := by simpa [hq, hzq] using hi
      refine wpList_plain hgd fun _ hK => wp_append_sl w s x t ho base e i z size bytes ht hq hzq hi'.2.1 hi'.2.2 hi'.1 hsz v n xs hs hown u m news hx hr h1 (by unfold maxLen; omega) hbytes hbase fun v' w' h2 h3 h4 => hK _ _ (h v' w' h2 h3 h4)
/-- the new slice's form written out -/
theorem wpList_append_slf {ops : Array Oper} {rest : List Oper} {o : Oper} {a : Act} {Q : Exit → Act → World → Prop} {t e : TypeId} {size bytes : Nat} (he : Elt P t e size bytes) (hgd : o.guard = none) (s x : Operand)
    (ho : o.op = .call { callee := .builtin .append, args := #[s, x], argTypes := #[t, t] })
    (base : Nat) (v : Value) (n : Nat) (xs : List Value) (hs : a.eval s = v) (hown : w.ownsRow base e size v n xs)
    (u : Value) (m : Nat) (news : List Value) (hx : a.eval x = u) (hr : SL w size u m news) (h1 : ∀ u ∈ news, u.oneCell' = true)
    (h63 : n + m ≤ 9223372036854775807) (hbytes : (n + m) * bytes ≤ 140737488355328) (hbase : base ≤ w.heap.size)
    (h : ∀ A c w', w'.ownsRow base e size (.slice A (n + m) c) (n + m) (xs ++ news) → w.grownBy w' v.ownBlock → (A.map (·.block) = v.ownBlock ∨ A.map (·.block) = some w.heap.size) → wpList P ops Q rest (a.put o.dst (.slice A (n + m) c)) w') : wpList P ops Q (o :: rest) a w :=
  wpList_append_slr he hgd s x ho base v n xs hs hown u m news hx hr h1 h63 hbytes hbase fun v' w' h2 h3 h4 => by
    have h2' := h2.2
    rcases h2' with ⟨rfl, h0⟩ | ⟨g, cap, cur, rfl, _⟩
    · have hz : n + m = 0 ∨ ¬ n + m = 0 := by omega
      have hl := h2.1
      rw [h0] at hl
      have h5 : n + m = 0 := by
        have := he.hsz
        rcases Nat.eq_zero_or_pos (n + m) with h6 | h6
        · exact h6
        · have := Nat.mul_pos h6 this
          simp at hl
          omega
      have key := h none 0 w'
      rw [h5] at key
      rw [h5] at h2
      exact key h2 h3 (by simpa [Value.ownBlock] using h4)
    · exact h _ _ w' h2 h3 (by simpa [Value.ownBlock] using h4)
end
/-- a row of the call's own, read as a slice -/
theorem own_sl {w : World} {base : Nat} {e : TypeId} {size n : Nat} {v : Value} {xs : List Value} (h : w.ownsRow base e size v n xs) : SL w size v n xs := by
  obtain ⟨hl, hh⟩ := h
  rcases hh with ⟨rfl, rfl⟩ | ⟨g, cap, cur, rfl, hb, hg, hn, hm, hc, hx⟩
  · have : xs = [] := List.eq_nil_of_length_eq_zero (by simpa using hl)
    subst this
    exact SL.nil w size
  · refine ⟨_, _, rfl, hn, by unfold maxLen at hm; omega, hl, fun _ => ⟨_, rfl, Blk.lt (w := w) (t := e) (cs := cur) hg, fun j u hu => ?_⟩⟩
    have hj : j < xs.length := (List.getElem?_eq_some_iff.1 hu).1
    have e1 : (⟨g, 0, none⟩ : Addr).add j = ⟨g, j, none⟩ := by
      unfold Addr.add
      by_cases h0 : j = 0
      · subst h0; rfl
      · rw [if_neg h0]; simp
    rw [e1, cell_of_row w g j cur e (0, 0) hg, ← hu, ← hx, List.getElem?_take_of_lt (by omega)]
    simp
theorem own_snoc {w : World} {base : Nat} {e : TypeId} {v : Value} {L : List Int} {z : Int} (h : w.ownsRow base e 1 v (L.length + 1) (ints L ++ [.int .i64 z])) : w.ownsRow base e 1 v (L ++ [z]).length (ints (L ++ [z])) := by
  simpa [ints] using h
theorem Ext.trans' {a w w' : World} (h : Ext a w) (k : Below a.heap.size w w') : Ext a w' := Below.trans h k
theorem int_one (z : Int) : ∀ u ∈ [Value.int .i64 z], u.oneCell' = true := by
  intro u hu
  simp at hu
  subst hu
  rfl
/-- the one cell that 'append(out, x)' lays first -/
theorem one_sl (w : World) (T : TypeId) (v : Value) : SL (w.alloc (.cells #[v] T)) 1 (.slice (some ⟨w.heap.size, 0, none⟩) 1 1) 1 [v] := by
  have := (Blk.new w T #[v]).sl (size := 1) (n := 1) (c := 1) rfl (by omega) (by omega)
  simpa using this
theorem own_form {w : World} {base : Nat} {e : TypeId} {size n : Nat} {v : Value} {xs : List Value} (h : w.ownsRow base e size v n xs) : ∃ A c, v = .slice A n c ∧ SL w size (.slice A n c) n xs ∧ ∀ ad, A = some ad → base ≤ ad.block := by
  have hs := own_sl h
  obtain ⟨hl, hh⟩ := h
  rcases hh with ⟨rfl, rfl⟩ | ⟨g, cap, cur, rfl, hb, hg, hn, hm, hc, hx⟩
  · exact ⟨none, 0, rfl, hs, by intro ad h; cases h⟩
  · exact ⟨some ⟨g, 0, none⟩, cap, rfl, hs, by intro ad h; injection h with h; subst h; exact hb⟩
theorem SL.far {w : World} {size n c : Nat} {A : Option Addr} {xs : List Value} (h : SL w size (.slice A n c) n xs) {p : Addr} (hne : ∀ ad, A = some ad → ad.block ≠ p.block) (u : Value) : SL (w.setCell p u) size (.slice A n c) n xs := by
  obtain ⟨A', c', e, h1, h1', h2, h3⟩ := h
  injection e with e1 e2 e3
  subst e1 e3
  refine ⟨A, c, rfl, h1, h1', h2, fun hn => ?_⟩
  obtain ⟨ad, ea, hlt, hc⟩ := h3 hn
  exact ⟨ad, ea, by simpa [World.setCell] using hlt, fun j u' hu => (World.cell?_setCell_other w p (ad.add j) u (fun e => hne ad ea (by rw [e, block_of_add]))).trans (hc j u' hu)⟩
end Go.Proofs.YtgmddhljgfbibaaDoor
/- power of the reference: 1 << k. -/
namespace Go.Proofs.YtgmddhljgfbibaaDoor
set_option linter.unusedVariables false
set_option linter.unusedSimpArgs false
open Go.RowKit
theorem pow_le (k m : Nat) (h : k ≤ m) : (2 : Int) ^ k ≤ 2 ^ m := by
  have := Nat.pow_le_pow_right (n := 2) (by omega) h
  exact_mod_cast this
theorem pow_pos' (k : Nat) : (1 : Int) ≤ 2 ^ k := by
  have := Nat.two_pow_pos k
  exact_mod_cast this
theorem power_any (k : Nat) (w : World) (hk : k ≤ 62) : Calls Tryd.prog 84 #[.int .i64 k] w fun e w' => e = .returned (.int .i64 (2 ^ k)) ∧ w = w' := by
  have h1 := pow_le k 62 hk
  have h2 := pow_pos' k
  have h3 : (2 : Int) ^ 62 = 4611686018427387904 := by decide
  rw [h3] at h1
  clear h3
  go_enter Tryd.func84, Tryd.ntmps84
  go_wp2
  go_ret
  exact ⟨rfl, rfl⟩
end Go.Proofs.YtgmddhljgfbibaaDoor
/- wordsOf of the reference. -/
namespace Go.Proofs.YtgmddhljgfbibaaDoor
set_option linter.unusedVariables false
set_option linter.unusedSimpArgs false
open Go.RowKit
def strs (L : List ByteArray) : List Value := L.map Value.string
def nextW (cs : List Int) : Nat → Nat
  | 0 => 0
  | k + 1 => 2 * nextW cs k + (cs.getD k 0).toNat
def rowW (cs : List Int) (k j : Nat) : List ByteArray := (List.range j).map fun i => binS (2 * nextW cs k + i) (k + 1)
def outW (cs : List Int) : Nat → List ByteArray
  | 0 => []
  | k + 1 => outW cs k ++ rowW cs k (cs.getD k 0).toNat
def okW (cs : List Int) : Bool := (List.range 16).all fun k => decide (nextW cs (k + 1) + 1 ≤ 2 ^ (k + 1))
theorem okW_no {cs : List Int} {k : Nat} (hk : k < 16) (h : 2 ^ (k + 1) < nextW cs (k + 1) + 1) : okW cs = false := by
  rw [← Bool.not_eq_true]
  intro h2
  have := List.all_eq_true.1 h2 k (List.mem_range.2 hk)
  simp only [decide_eq_true_eq] at this
  omega
theorem rowW_succ (cs : List Int) (k j : Nat) : rowW cs k (j + 1) = rowW cs k j ++ [binS (2 * nextW cs k + j) (k + 1)] := by
  unfold rowW
  rw [List.range_succ, List.map_append]
  rfl
theorem elt_str : Elt Tryd.prog 126 9 1 16 := ⟨Tryd.underlying126, by kernel_rfl, by omega⟩
theorem own_str {w : World} {base : Nat} {e : TypeId} {v : Value} {L : List ByteArray} {b : ByteArray} (h : w.ownsRow base e 1 v (L.length + 1) (strs L ++ [.string b])) : w.ownsRow base e 1 v (L ++ [b]).length (strs (L ++ [b])) := by
  simpa [strs] using h
theorem str_one (b : ByteArray) : ∀ u ∈ [Value.string b], u.oneCell' = true := by
  intro u hu
  simp at hu
  subst hu
  rfl
set_option maxRecDepth 20000 in
set_option maxHeartbeats 1000000 in
theorem wordsOf_yes (cs : List Int) (sl : Value) (w : World) (hl : cs.length = 16) (hal : allIn cs 0 256 = true) (hok : okW cs = true) :
    Calls Tryd.prog 60 #[.agg (tblv cs sl)] w fun e w' => ∃ A c, e = .returned (.tuple #[.slice A (outW cs 16).length c, .bool true]) ∧ SL w' 1 (.slice A (outW cs 16).length c) (outW cs 16).length (strs (outW cs 16)) ∧ Ext w w' := by
  have HOKT := hid_ hok
  clear hok
  have HL := hid_ hl
  have HAL := hid_ (allIn_iff.1 hal)
  have HRG := hid_ (fun W g (h : Blk W g 32 (tblv cs sl)) => tblv_range h)
  have hcl := hid_ ((ints_len cs).trans hl)
  have HIX := hid_ (fun k (hk : k < cs.length) (h16 : k < 16) => fun W => run_index16 (ints cs).toArray k (.int .i64 cs[k]) h16 (bv_at cs k hk) W)
  clear hal
  generalize tblv cs sl = tv at *
  go_enter Tryd.func60, Tryd.ntmps60
  go_wp2_with (first
    | (refine wpList_box_abs rfl 32 (.tmp 0) rfl tv rfl ?_; intro w1 g hb1 hx1 hg)
    | (refine wpList_load_mid rfl 29 (.tmp 8) rfl g 0 rfl (ints cs) _ (HRG.out _ _ hb1) Tryd.underlying29 rfl (by rw [hcl.out]; exact size16) ?_))
  go_loopw [4, 5, 10] (fun v nx i wr => ∃ k : Nat, k ≤ 16 ∧ i = .int .i64 (k : Int) ∧ nx = .int .i64 (nextW cs k : Nat) ∧ nextW cs k + 1 ≤ 2 ^ k ∧ (outW cs k).length ≤ 256 * k ∧ (∀ j, j < k → nextW cs (j + 1) + 1 ≤ 2 ^ (j + 1)) ∧ wr.ownsRow w.heap.size 9 1 v (outW cs k).length (strs (outW cs k)) ∧ Ext w wr) (fun _ _ i _ => 16 - (intOf i).toNat)
  case atStart => exact ⟨0, by omega, rfl, rfl, by simp [nextW], by simp [outW], by intro j hj; omega, World.ownsRow_nil _ _ _ _, hx1⟩
  case round =>
    clear hx1
    obtain ⟨k, hk, rfl, rfl, hnx, hol, hall, hown, hx⟩ := hrel
    by_cases hlt : k < 16
    · have hsd : decide ((k : Int) < 16) = true := by simp; omega
      have hkl : k < cs.length := by have := HL.out; omega
      have hix := HIX.out k hkl hlt
      obtain ⟨q1, q2⟩ := HAL.out _ (List.getElem_mem hkl)
      have HG : Hid (cs.getD k 0 = cs[k]) := hid_ (by simp [hkl])
      obtain ⟨n, hn⟩ : ∃ n : Nat, cs[k] = (n : Int) := ⟨cs[k].toNat, by omega⟩
      rw [hn] at hix q1 q2 HG
      have HNW : Hid (nextW cs (k + 1) = 2 * nextW cs k + n) := hid_ (by show 2 * nextW cs k + (cs.getD k 0).toNat = _; rw [HG.out]; simp)
      have HOW : Hid (outW cs (k + 1) = outW cs k ++ rowW cs k n) := hid_ (by show outW cs k ++ rowW cs k (cs.getD k 0).toNat = _; rw [HG.out]; simp)
      have HRS := hid_ (rowW_succ cs k)
      have HR0 : Hid (rowW cs k 0 = []) := hid_ rfl
      have HRL : Hid (∀ j, (rowW cs k j).length = j) := hid_ (fun j => by simp [rowW])
      have HALL := hid_ hall
      have hp : (2 : Nat) ^ k ≤ 65536 := by have := Nat.pow_le_pow_right (n := 2) (by omega) hk; simpa using this
      have HP : Hid (2 ^ (k + 1) = 2 * 2 ^ k) := hid_ (by rw [Nat.pow_succ]; omega)
      have HOK := hid_ (fun (h : 2 ^ (k + 1) < nextW cs (k + 1) + 1) => okW_no hlt h)
      have HPA : Hid (∀ W, Calls Tryd.prog 84 #[.int .i64 ((k : Int) + 1)] W fun e w' => e = .returned (.int .i64 (((2 ^ (k + 1) : Nat)) : Int)) ∧ W = w') := hid_ (fun W => by
        have := power_any (k + 1) W (by omega)
        simpa using this)
      rw [HP.out] at HPA HOK
      rw [HNW.out] at HOK
      have HBA := hid_ (fun m W (hm : m ≤ 1000000000) => binary_any (k + 1) m W (by omega) hm)
      generalize hN : nextW cs k = N at *
      generalize hPw : (2 : Nat) ^ k = Pw at *
      clear hn hN hall hkl
      go_wp2_with fail
      go_loopw [4, 5, 17] (fun v nx i wr => ∃ j : Nat, j ≤ n ∧ i = .int .i64 (j : Int) ∧ nx = .int .i64 ((2 * N + j : Nat) : Int) ∧ 2 * N + j + 1 ≤ 2 * Pw ∧ wr.ownsRow w.heap.size 9 1 v (outW cs k ++ rowW cs k j).length (strs (outW cs k ++ rowW cs k j)) ∧ Ext w wr) (fun _ _ i _ => n - (intOf i).toNat)
      case atStart => exact ⟨0, by omega, rfl, by congr 1; omega, by omega, by rw [HR0.out, List.append_nil]; exact hown, hx⟩
      case round =>
        clear hown hx
        obtain ⟨j, hj, rfl, rfl, hnj, hown, hx⟩ := hrel
        have hlen : (outW cs k ++ rowW cs k j).length = (outW cs k).length + j := by rw [List.length_append, HRL.out]
        by_cases hlj : j < n
        · by_cases hbad : 2 * N + j + 1 < 2 * Pw
          · have hbad' : decide (2 * (Pw : Int) - 1 ≤ 2 * (N : Int) + (j : Int)) = false := by simp; omega
            have HBJ : Hid (∀ W, Calls Tryd.prog 34 #[.int .i64 ((k : Int) + 1), .int .i64 (2 * (N : Int) + (j : Int))] W fun e w' => e = .returned (.string (binS (2 * N + j) (k + 1))) ∧ W = w') := hid_ (fun W => by
              have := HBA.out (2 * N + j) W (by omega)
              simpa using this)
            have HRJ := hid_ (HRS.out j)
            generalize binS (2 * N + j) (k + 1) = bs at *
            go_wp2_with (first
              | (go_at_call 84; (with_reducible refine (HPA.out _).mono ?_); rintro e w' ⟨rfl, rfl⟩)
              | (go_at_call 34; (with_reducible refine (HBJ.out _).mono ?_); rintro e w' ⟨rfl, rfl⟩)
              | (at_builtin; go_must (refine wpList_append_sl elt_str rfl _ _ rfl w.heap.size _ _ _ rfl (hown.alloc _) _ 1 [.string _] rfl (one_sl _ _ _) (str_one _) (by omega) (by omega) (by have := hx.size; simp; omega) ?_); intro v' w7 hown7 hb7))
            go_roundw
            case rel =>
              refine ⟨j + 1, by omega, by go_num, by congr 1, by omega, ?_, (hx.alloc _).trans' hb7⟩
              rw [HRJ.out, ← List.append_assoc]
              exact own_str hown7
            case measure => simp [intOf]; omega
          · exfalso
            have := HOK.out (by omega)
            rw [HOKT.out] at this
            cases this
        · obtain rfl : j = n := by omega
          go_wp2_with fail
          go_roundw
          case rel =>
            refine ⟨k + 1, by omega, by go_num, by rw [HNW.out], by rw [HNW.out, HP.out]; omega, by rw [HOW.out, hlen]; omega, ?_, by rw [HOW.out]; exact hown, hx⟩
            intro i hi
            by_cases hik : i = k
            · subst hik; rw [HNW.out, HP.out]; omega
            · exact HALL.out i (by omega)
          case measure => simp [intOf]; omega
    · have ek : k = 16 := by omega
      rw [ek] at hown
      clear hall
      go_wp2_with fail
      go_ret2
      obtain ⟨A, c, rfl, hsl, hfs⟩ := own_form hown
      exact ⟨A, c, rfl, hsl, hx⟩
set_option maxRecDepth 20000 in
set_option maxHeartbeats 1000000 in
theorem wordsOf_no (cs : List Int) (sl : Value) (w : World) (hl : cs.length = 16) (hal : allIn cs 0 256 = true) (hok : okW cs = false) :
    Calls Tryd.prog 60 #[.agg (tblv cs sl)] w fun e w' => e = .returned (.tuple #[.slice none 0 0, .bool false]) ∧ Ext w w' := by
  have HOKT := hid_ hok
  clear hok
  have HL := hid_ hl
  have HAL := hid_ (allIn_iff.1 hal)
  have HRG := hid_ (fun W g (h : Blk W g 32 (tblv cs sl)) => tblv_range h)
  have hcl := hid_ ((ints_len cs).trans hl)
  have HIX := hid_ (fun k (hk : k < cs.length) (h16 : k < 16) => fun W => run_index16 (ints cs).toArray k (.int .i64 cs[k]) h16 (bv_at cs k hk) W)
  clear hal
  generalize tblv cs sl = tv at *
  go_enter Tryd.func60, Tryd.ntmps60
  go_wp2_with (first
    | (refine wpList_box_abs rfl 32 (.tmp 0) rfl tv rfl ?_; intro w1 g hb1 hx1 hg)
    | (refine wpList_load_mid rfl 29 (.tmp 8) rfl g 0 rfl (ints cs) _ (HRG.out _ _ hb1) Tryd.underlying29 rfl (by rw [hcl.out]; exact size16) ?_))
  go_loopw [4, 5, 10] (fun v nx i wr => ∃ k : Nat, k ≤ 16 ∧ i = .int .i64 (k : Int) ∧ nx = .int .i64 (nextW cs k : Nat) ∧ nextW cs k + 1 ≤ 2 ^ k ∧ (outW cs k).length ≤ 256 * k ∧ (∀ j, j < k → nextW cs (j + 1) + 1 ≤ 2 ^ (j + 1)) ∧ wr.ownsRow w.heap.size 9 1 v (outW cs k).length (strs (outW cs k)) ∧ Ext w wr) (fun _ _ i _ => 16 - (intOf i).toNat)
  case atStart => exact ⟨0, by omega, rfl, rfl, by simp [nextW], by simp [outW], by intro j hj; omega, World.ownsRow_nil _ _ _ _, hx1⟩
  case round =>
    clear hx1
    obtain ⟨k, hk, rfl, rfl, hnx, hol, hall, hown, hx⟩ := hrel
    by_cases hlt : k < 16
    · have hsd : decide ((k : Int) < 16) = true := by simp; omega
      have hkl : k < cs.length := by have := HL.out; omega
      have hix := HIX.out k hkl hlt
      obtain ⟨q1, q2⟩ := HAL.out _ (List.getElem_mem hkl)
      have HG : Hid (cs.getD k 0 = cs[k]) := hid_ (by simp [hkl])
      obtain ⟨n, hn⟩ : ∃ n : Nat, cs[k] = (n : Int) := ⟨cs[k].toNat, by omega⟩
      rw [hn] at hix q1 q2 HG
      have HNW : Hid (nextW cs (k + 1) = 2 * nextW cs k + n) := hid_ (by show 2 * nextW cs k + (cs.getD k 0).toNat = _; rw [HG.out]; simp)
      have HOW : Hid (outW cs (k + 1) = outW cs k ++ rowW cs k n) := hid_ (by show outW cs k ++ rowW cs k (cs.getD k 0).toNat = _; rw [HG.out]; simp)
      have HRS := hid_ (rowW_succ cs k)
      have HR0 : Hid (rowW cs k 0 = []) := hid_ rfl
      have HRL : Hid (∀ j, (rowW cs k j).length = j) := hid_ (fun j => by simp [rowW])
      have HALL := hid_ hall
      have hp : (2 : Nat) ^ k ≤ 65536 := by have := Nat.pow_le_pow_right (n := 2) (by omega) hk; simpa using this
      have HP : Hid (2 ^ (k + 1) = 2 * 2 ^ k) := hid_ (by rw [Nat.pow_succ]; omega)
      have HOK := hid_ (fun (h : 2 ^ (k + 1) < nextW cs (k + 1) + 1) => okW_no hlt h)
      have HPA : Hid (∀ W, Calls Tryd.prog 84 #[.int .i64 ((k : Int) + 1)] W fun e w' => e = .returned (.int .i64 (((2 ^ (k + 1) : Nat)) : Int)) ∧ W = w') := hid_ (fun W => by
        have := power_any (k + 1) W (by omega)
        simpa using this)
      rw [HP.out] at HPA HOK
      rw [HNW.out] at HOK
      have HBA := hid_ (fun m W (hm : m ≤ 1000000000) => binary_any (k + 1) m W (by omega) hm)
      generalize hN : nextW cs k = N at *
      generalize hPw : (2 : Nat) ^ k = Pw at *
      clear hn hN hall hkl
      go_wp2_with fail
      go_loopw [4, 5, 17] (fun v nx i wr => ∃ j : Nat, j ≤ n ∧ i = .int .i64 (j : Int) ∧ nx = .int .i64 ((2 * N + j : Nat) : Int) ∧ 2 * N + j + 1 ≤ 2 * Pw ∧ wr.ownsRow w.heap.size 9 1 v (outW cs k ++ rowW cs k j).length (strs (outW cs k ++ rowW cs k j)) ∧ Ext w wr) (fun _ _ i _ => n - (intOf i).toNat)
      case atStart => exact ⟨0, by omega, rfl, by congr 1; omega, by omega, by rw [HR0.out, List.append_nil]; exact hown, hx⟩
      case round =>
        clear hown hx
        obtain ⟨j, hj, rfl, rfl, hnj, hown, hx⟩ := hrel
        have hlen : (outW cs k ++ rowW cs k j).length = (outW cs k).length + j := by rw [List.length_append, HRL.out]
        by_cases hlj : j < n
        · by_cases hbad : 2 * N + j + 1 < 2 * Pw
          · have hbad' : decide (2 * (Pw : Int) - 1 ≤ 2 * (N : Int) + (j : Int)) = false := by simp; omega
            have HBJ : Hid (∀ W, Calls Tryd.prog 34 #[.int .i64 ((k : Int) + 1), .int .i64 (2 * (N : Int) + (j : Int))] W fun e w' => e = .returned (.string (binS (2 * N + j) (k + 1))) ∧ W = w') := hid_ (fun W => by
              have := HBA.out (2 * N + j) W (by omega)
              simpa using this)
            have HRJ := hid_ (HRS.out j)
            generalize binS (2 * N + j) (k + 1) = bs at *
            go_wp2_with (first
              | (go_at_call 84; (with_reducible refine (HPA.out _).mono ?_); rintro e w' ⟨rfl, rfl⟩)
              | (go_at_call 34; (with_reducible refine (HBJ.out _).mono ?_); rintro e w' ⟨rfl, rfl⟩)
              | (at_builtin; go_must (refine wpList_append_sl elt_str rfl _ _ rfl w.heap.size _ _ _ rfl (hown.alloc _) _ 1 [.string _] rfl (one_sl _ _ _) (str_one _) (by omega) (by omega) (by have := hx.size; simp; omega) ?_); intro v' w7 hown7 hb7))
            go_roundw
            case rel =>
              refine ⟨j + 1, by omega, by go_num, by congr 1, by omega, ?_, (hx.alloc _).trans' hb7⟩
              rw [HRJ.out, ← List.append_assoc]
              exact own_str hown7
            case measure => simp [intOf]; omega
          · have hbad' : decide (2 * (Pw : Int) - 1 ≤ 2 * (N : Int) + (j : Int)) = true := by simp; omega
            go_wp2_with (go_at_call 84; (with_reducible refine (HPA.out _).mono ?_); rintro e w' ⟨rfl, rfl⟩)
            go_ret2
            exact ⟨rfl, hx⟩
        · obtain rfl : j = n := by omega
          go_wp2_with fail
          go_roundw
          case rel =>
            refine ⟨k + 1, by omega, by go_num, by rw [HNW.out], by rw [HNW.out, HP.out]; omega, by rw [HOW.out, hlen]; omega, ?_, by rw [HOW.out]; exact hown, hx⟩
            intro i hi
            by_cases hik : i = k
            · subst hik; rw [HNW.out, HP.out]; omega
            · exact HALL.out i (by omega)
          case measure => simp [intOf]; omega
    · exfalso
      have ek : k = 16 := by omega
      subst ek
      have : okW cs = true := List.all_eq_true.2 fun i hi => by
        have := hall i (by have := List.mem_range.1 hi; omega)
        simpa using this
      rw [HOKT.out] at this
      cases this
end Go.Proofs.YtgmddhljgfbibaaDoor
/- Whether a table may be, in plain words. -/
namespace Go.Proofs.YtgmddhljgfbibaaDoor
set_option linter.unusedVariables false
set_option linter.unusedSimpArgs false
open Go.RowKit
/-- counts within bounds, as many as symbols -/
def totOK (cs xs : List Int) : Bool := allIn cs 0 256 && decide (sumL cs 16 ≤ 256) && decide (sumL cs 16 = xs.length)
/-- what Check answers -/
def checkZ (cs xs : List Int) : Int := if totOK cs xs then (if allIn xs 0 255 then (if decide xs.Nodup && okW cs then 0 else 4) else 1) else 4
theorem checkZ_tot {cs xs : List Int} (h : totOK cs xs = false) : checkZ cs xs = 4 := by simp [checkZ, h]
theorem checkZ_arg {cs xs : List Int} (h : totOK cs xs = true) (h2 : allIn xs 0 255 = false) : checkZ cs xs = 1 := by simp [checkZ, h, h2]
theorem checkZ_dup {cs xs : List Int} (h : totOK cs xs = true) (h2 : allIn xs 0 255 = true) (h3 : ¬ xs.Nodup) : checkZ cs xs = 4 := by simp [checkZ, h, h2, h3]
theorem checkZ_words {cs xs : List Int} (h : totOK cs xs = true) (h2 : allIn xs 0 255 = true) (h3 : xs.Nodup) : checkZ cs xs = if okW cs then 0 else 4 := by simp [checkZ, h, h2, h3]
theorem totOK_iff {cs xs : List Int} : totOK cs xs = true ↔ allIn cs 0 256 = true ∧ sumL cs 16 ≤ 256 ∧ sumL cs 16 = xs.length := by simp [totOK, and_assoc]
theorem nodup_take_succ {xs : List Int} {k : Nat} (hk : k < xs.length) : (xs.take (k + 1)).Nodup ↔ (xs.take k).Nodup ∧ xs[k] ∉ xs.take k := by
  rw [List.take_succ_eq_append_getElem hk, List.nodup_append]
  constructor
  · rintro ⟨a, -, c⟩
    exact ⟨a, fun h => c _ h _ (by simp) rfl⟩
  · rintro ⟨a, b⟩
    refine ⟨a, by simp, fun x hx y hy => ?_⟩
    simp at hy
    subst hy
    rintro rfl
    exact b hx
theorem okW_yes {cs : List Int} (h : ∀ j, j < 16 → nextW cs (j + 1) + 1 ≤ 2 ^ (j + 1)) : okW cs = true :=
  List.all_eq_true.2 fun i hi => by
    have := h i (List.mem_range.1 hi)
    simpa using this
theorem nextW_succ (cs : List Int) (k n : Nat) (hk : k < cs.length) (h : cs[k] = (n : Int)) : nextW cs (k + 1) = 2 * nextW cs k + n := by
  show 2 * nextW cs k + (cs.getD k 0).toNat = _
  simp [hk, h]
theorem sumL_bd {cs : List Int} (h : allIn cs 0 256 = true) : ∀ k, 0 ≤ sumL cs k ∧ sumL cs k ≤ sumL cs (k + 1) := by
  have key : ∀ l : List Int, (∀ z ∈ l, 0 ≤ z) → 0 ≤ l.sum := by
    intro l
    induction l with
    | nil => simp
    | cons a l ih =>
      intro h
      have := h a (by simp)
      have := ih (fun z hz => h z (by simp [hz]))
      simp; omega
  have h' := allIn_iff.1 h
  intro k
  constructor
  · exact key _ fun z hz => (h' z (List.mem_of_mem_take hz)).1
  · rcases Nat.lt_or_ge k cs.length with hk | hk
    · rw [sumL_succ cs k hk]
      have := h' _ (List.getElem_mem hk)
      omega
    · unfold sumL
      rw [List.take_of_length_le hk, List.take_of_length_le (by omega)]
      omega
end Go.Proofs.YtgmddhljgfbibaaDoor
