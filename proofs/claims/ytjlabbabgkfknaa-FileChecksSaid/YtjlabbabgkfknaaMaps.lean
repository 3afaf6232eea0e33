/- Maps that the call makes: elements as they are, read as a function of the keys. -/
import Derived.Maps.OwnSet
import Derived.Test.YtjlabbabgkfknaaBase
namespace Go.Proofs.Ytjlabbabgkfknaa
set_option linter.unusedVariables false
set_option linter.unusedSimpArgs false
open Go.RowKit Go.Maps
/-- an element reads as itself -/
def VR (v : Value) : Option (DataW Value × List MemPlace) := some (.held v, [])
/-- block b is a map of at most n entries; at the key of i it holds g i -/
def MapG {ι : Type} (P : Program) (k : TypeId) (kl : ι → Lit) (ok : ι → Prop) (w : World) (b n : Nat) (g : ι → Option Value) : Prop :=
  ∃ D : DataW Value, w.ownsMap P k VR b n D ∧ IsMap D ∧ ∀ i, ok i → Maps.has D (kl i) = (g i).isSome ∧ ∀ z, D.atKey (kl i) (.held z) = .held ((g i).getD z)
section
variable {ι : Type} {P : Program} {k : TypeId} {kl : ι → Lit} {ok : ι → Prop} {w w' : World} {b n : Nat} {g : ι → Option Value}
theorem MapG.made (w : World) : MapG P k kl ok (w.alloc (.map #[] 0)) w.heap.size 0 (fun _ => none) :=
  ⟨.map [], World.ownsMap_made _ _ _ _, isMap_empty, fun _ _ => ⟨rfl, fun _ => rfl⟩⟩
theorem MapG.lt (h : MapG P k kl ok w b n g) : b < w.heap.size := by obtain ⟨D, h1, -⟩ := h; exact h1.lt
theorem MapG.alloc (h : MapG P k kl ok w b n g) (o : Obj) : MapG P k kl ok (w.alloc o) b n g := by
  obtain ⟨D, h1, h2⟩ := h; exact ⟨D, h1.alloc o, h2⟩
theorem MapG.ext (h : MapG P k kl ok w b n g) (hx : Ext w w') : MapG P k kl ok w' b n g := by
  obtain ⟨D, ⟨es, clock, hb, r⟩, h2⟩ := h
  refine ⟨D, ⟨es, clock, (hx.block b ?_).trans hb, r⟩, h2⟩
  exact World.ownsMap.lt (R := VR) ⟨es, clock, hb, r⟩
theorem MapG.grown {row : Option Nat} (h : MapG P k kl ok w b n g) (hg : w.grownBy w' row) (hne : some b ≠ row) : MapG P k kl ok w' b n g := by
  obtain ⟨D, h1, h2⟩ := h; exact ⟨D, h1.kept hg hne, h2⟩
theorem MapG.below {B : Nat} (h : MapG P k kl ok w b n g) (hx : Below B w w') (hb : b < B) : MapG P k kl ok w' b n g := by
  obtain ⟨D, ⟨es, clock, h3, r⟩, h2⟩ := h
  exact ⟨D, ⟨es, clock, (hx.block b hb).trans h3, r⟩, h2⟩
theorem MapG.setCell (h : MapG P k kl ok w b n g) {a : Addr} (ha : b ≠ a.block) (u : Value) : MapG P k kl ok (w.setCell a u) b n g := by
  obtain ⟨D, h1, h2⟩ := h; exact ⟨D, h1.setCell ha u, h2⟩
theorem MapG.mono (h : MapG P k kl ok w b n g) {m : Nat} (hm : n ≤ m) : MapG P k kl ok w b m g := by
  obtain ⟨D, h1, h2⟩ := h; exact ⟨D, h1.mono hm, h2⟩
variable {ops : Array Oper} {rest : List Oper} {o : Oper} {a : Act} {Q : Exit → Act → World → Prop}
theorem wpList_look_g (hw : Region.wanted o (yielded ops a.tmps) = true) (m x : Operand) (t e : TypeId) (hop : o.op = Op.lookup t m x false) (K : Keyed P k) (ht : P.underlying t = some (.map k e))
    (z : Value) (hz : (zeroValue e).run P w = .ok z w) (hm : a.eval m = .map (some b)) (h : MapG P k kl ok w b n g) (key : Value) (hx : a.eval x = key)
    (i : ι) (hi : ok i) (hk : keyOf P k key = some (kl i)) (u : Value) (hu : (g i).getD z = u) (hK : wpList P ops Q rest (a.put o.dst u) w) : wpList P ops Q (o :: rest) a w := by
  refine wpList_wanted hw fun K' hK' => ?_
  obtain ⟨D, h1, -, h2⟩ := h
  obtain ⟨v, ps, hrun, hv⟩ := h1.lookup K ht hz (zd := .held z) (zp := []) rfl hk
  rw [(h2 i hi).2 z, hu] at hv
  have : v = u := by unfold VR at hv; injection hv with hv; injection hv with hv _; injection hv
  subst this
  unfold Oper.wp
  simp [execOp, hop, hm, hx, hrun, Result.andThen]
  exact hK' _ _ hK
theorem wpList_look_ok_g (hw : Region.wanted o (yielded ops a.tmps) = true) (m x : Operand) (t e : TypeId) (hop : o.op = Op.lookup t m x true) (K : Keyed P k) (ht : P.underlying t = some (.map k e))
    (z : Value) (hz : (zeroValue e).run P w = .ok z w) (hm : a.eval m = .map (some b)) (h : MapG P k kl ok w b n g) (key : Value) (hx : a.eval x = key)
    (i : ι) (hi : ok i) (hk : keyOf P k key = some (kl i)) (u : Value) (hu : (g i).getD z = u) (c : Bool) (hc : (g i).isSome = c) (hK : wpList P ops Q rest (a.put o.dst (.tuple #[u, .bool c])) w) : wpList P ops Q (o :: rest) a w := by
  refine wpList_wanted hw fun K' hK' => ?_
  obtain ⟨D, h1, -, h2⟩ := h
  obtain ⟨v, ps, hrun, hv⟩ := h1.look_ok K ht hz (zd := .held z) (zp := []) rfl hk
  rw [(h2 i hi).2 z, hu] at hv
  rw [(h2 i hi).1, hc] at hrun
  have : v = u := by unfold VR at hv; injection hv with hv; injection hv with hv _; injection hv
  subst this
  unfold Oper.wp
  simp [execOp, hop, hm, hx, hrun, Result.andThen]
  exact hK' _ _ hK
theorem wpList_upd_g (hw : Region.wanted o (yielded ops a.tmps) = true) (m x y : Operand) (t e : TypeId) (hop : o.op = Op.mapUpdate t m x y) (K : Keyed P k) (ht : P.underlying t = some (.map k e))
    (hm : a.eval m = .map (some b)) (h : MapG P k kl ok w b n g) (hn : n < 9223372036854775807) (key : Value) (hx : a.eval x = key) (v : Value) (hy : a.eval y = v)
    (i : ι) (hk : keyOf P k key = some (kl i)) (g' : ι → Option Value) (h1 : g' i = some v) (h2 : ∀ j, ok j → kl j ≠ kl i → g' j = g j) (h3 : ∀ j, ok j → kl j = kl i → j = i)
    (hK : ∀ w', MapG P k kl ok w' b (n + 1) g' → w.grownBy w' (some b) → wpList P ops Q rest (a.put o.dst undef) w') : wpList P ops Q (o :: rest) a w := by
  refine wpList_wanted hw fun K' hK' => ?_
  obtain ⟨D, d1, d3, d2⟩ := h
  obtain ⟨w', hrun, r1, r2⟩ := d1.update K ht (by unfold maxLen; omega) hk (val := v) (d := .held v) (ps := []) rfl
  unfold Oper.wp
  simp [execOp, hop, hm, hx, hy, hrun, Result.andThen]
  refine hK' _ _ (hK w' ⟨_, r1, d3.put _ _, fun j hj => ?_⟩ r2)
  by_cases e1 : kl j = kl i
  · obtain rfl := h3 j hj e1
    rw [has_put_same d3 (K.key hk), h1]
    exact ⟨rfl, fun z => atKey_put_same d3 (K.key hk) _ _⟩
  · rw [has_put_other e1, h2 j hj e1]
    exact ⟨(d2 j hj).1, fun z => by rw [atKey_put_other e1]; exact (d2 j hj).2 z⟩
end
/-- integer keys -/
abbrev MapI (P : Program) (k : TypeId) (w : World) (b n : Nat) (g : Int → Option Value) : Prop := MapG P k (fun x : Int => Lit.int .i64 x) (fun _ => True) w b n g
theorem keyOf_i64 {P : Program} {k : TypeId} (hk : P.underlying k = some (.int .i64)) {a : Int} (h0 : -9223372036854775808 ≤ a) (h1 : a ≤ 9223372036854775807) : keyOf P k (.int .i64 a) = some (.int .i64 a) :=
  keyOf_int_mk hk (WalkArith.wf_i64 ⟨by omega, by omega⟩)
theorem ext_grown_new {a w w' : World} (h : Ext a w) {g : Nat} (hg : w.grownBy w' (some g)) (hB : a.heap.size ≤ g) : Ext a w' := h.grown hg hB
end Go.Proofs.Ytjlabbabgkfknaa
