/- Contracts for the law ScanEncodesCard, part 8: what the functions that it reaches answer, for all arguments that the theorems name. -/
import Derived.Test.YtgmddhljgfbibaaDoorMScanEncodesCard7
import Derived.Test.YtgmddhljgfbibaaDoorMScanEncodesCard5
import Derived.Test.YtgmddhljgfbibaaDoorMScanEncodesCard4
import Derived.Test.YtgmddhljgfbibaaDoorMScanEncodesCard6
import Derived.Test.YtgmddhljgfbibaaDoorMScanEncodesCard1
import Derived.ProofKit
import Derived.OpenShut
/- Two owned rows that grow side by side, each by a slice literal of one element: for drawn regions with two appends (XOrders). -/
namespace Go.Proofs.YtgmddhljgfbibaaDoor
set_option linter.unusedVariables false
set_option linter.unusedSimpArgs false
open Go.RowKit
theorem own_upd2 {S : Nat → Prop} {w w' : World} {base : Nat} {e : TypeId} {size n : Nat} {v : Value} {xs : List Value} (h : w.ownsRow base e size v n xs) (hu : Upd S w w') (hS : ∀ x, v.ownBlock = some x → ¬ S x) : w'.ownsRow base e size v n xs := by
  obtain ⟨hl, hh⟩ := h
  refine ⟨hl, ?_⟩
  rcases hh with ⟨rfl, rfl⟩ | ⟨g, cap, cur, rfl, h1, hg, h2⟩
  · exact .inl ⟨rfl, rfl⟩
  · exact .inr ⟨g, cap, cur, rfl, h1, (hu.block g (Blk.lt (w := w) (t := e) (cs := cur) hg) (hS g rfl)).trans hg, h2⟩
theorem upd_grown {w w' : World} {row : Option Nat} (hg : w.grownBy w' row) : Upd (fun b => row = some b) w w' :=
  (Upd.refl (fun b => row = some b) w).grown hg (fun b hb => .inl hb)
/-- a block of one cell, apart from the rows -/
def Apart (w : World) (e : TypeId) (v : Value) (g : Nat) (r1 r2 : Option Nat) : Prop := Blk w g e #[v] ∧ r1 ≠ some g ∧ r2 ≠ some g
structure Two (w0 w : World) (B : Nat) (e1 e2 : TypeId) (v1 v2 : Value) (n1 n2 : Nat) (xs1 xs2 : List Value) (t1 t2 : Option (Value × Nat)) : Prop where
  ext : Ext w0 w
  base : w0.heap.size ≤ B ∧ B ≤ w.heap.size
  p : w.ownsRow B e1 1 v1 n1 xs1
  m : w.ownsRow B e2 1 v2 n2 xs2
  d : ∀ b, v1.ownBlock = some b → v2.ownBlock ≠ some b
  a1 : ∀ v g, t1 = some (v, g) → Apart w e1 v g v1.ownBlock v2.ownBlock
  a2 : ∀ v g, t2 = some (v, g) → Apart w e2 v g v1.ownBlock v2.ownBlock
section
variable {w0 w w' : World} {B : Nat} {e1 e2 : TypeId} {v1 v2 v1' v2' : Value} {n1 n2 m1 m2 : Nat} {xs1 xs2 ys1 ys2 : List Value} {t1 t2 : Option (Value × Nat)}
theorem Two.later (h : Two w0 w B e1 e2 v1 v2 n1 n2 xs1 xs2 t1 t2) (hx : Ext w w') : Two w0 w' B e1 e2 v1 v2 n1 n2 xs1 xs2 t1 t2 :=
  ⟨h.ext.trans hx, ⟨h.base.1, Nat.le_trans h.base.2 hx.size⟩, own_keep h.p hx, own_keep h.m hx, h.d, fun v g e => by obtain ⟨a, b, c⟩ := h.a1 v g e; exact ⟨a.ext hx, b, c⟩, fun v g e => by obtain ⟨a, b, c⟩ := h.a2 v g e; exact ⟨a.ext hx, b, c⟩⟩
theorem Two.fresh (h : Two w0 w B e1 e2 v1 v2 n1 n2 xs1 xs2 t1 t2) {g : Nat} (hg : w.heap.size ≤ g) : v1.ownBlock ≠ some g ∧ v2.ownBlock ≠ some g :=
  ⟨fun e => by have := (h.p.lt g e).2; omega, fun e => by have := (h.m.lt g e).2; omega⟩
theorem Two.lit1 (h : Two w0 w B e1 e2 v1 v2 n1 n2 xs1 xs2 t1 t2) {v : Value} {g : Nat} (hb : Blk w' g e1 #[v]) (hx : Ext w w') (hg : w.heap.size ≤ g) : Two w0 w' B e1 e2 v1 v2 n1 n2 xs1 xs2 (some (v, g)) t2 := by
  have k := h.later hx
  obtain ⟨f1, f2⟩ := h.fresh hg
  exact ⟨k.ext, k.base, k.p, k.m, k.d, fun u g' e => by injection e with e; injection e with e e'; subst e e'; exact ⟨hb, f1, f2⟩, k.a2⟩
theorem Two.lit2 (h : Two w0 w B e1 e2 v1 v2 n1 n2 xs1 xs2 t1 t2) {v : Value} {g : Nat} (hb : Blk w' g e2 #[v]) (hx : Ext w w') (hg : w.heap.size ≤ g) : Two w0 w' B e1 e2 v1 v2 n1 n2 xs1 xs2 t1 (some (v, g)) := by
  have k := h.later hx
  obtain ⟨f1, f2⟩ := h.fresh hg
  exact ⟨k.ext, k.base, k.p, k.m, k.d, k.a1, fun u g' e => by injection e with e; injection e with e e'; subst e e'; exact ⟨hb, f1, f2⟩⟩
theorem Apart.grown {e : TypeId} {v : Value} {g : Nat} {r r' r2 : Option Nat} (h : Apart w e v g r r2) (hg : w.grownBy w' r) (hr : r' = r ∨ r' = some w.heap.size) : Apart w' e v g r' r2 := by
  obtain ⟨hb, h1, h2⟩ := h
  refine ⟨(upd_grown hg).blk hb h1, ?_, h2⟩
  rcases hr with rfl | rfl
  · exact h1
  · intro e; injection e with e; have := hb.lt; omega
theorem Apart.swap {e : TypeId} {v : Value} {g : Nat} {r r2 : Option Nat} (h : Apart w e v g r r2) : Apart w e v g r2 r := ⟨h.1, h.2.2, h.2.1⟩
theorem Two.app1 (h : Two w0 w B e1 e2 v1 v2 n1 n2 xs1 xs2 t1 t2) (ho : w'.ownsRow B e1 1 v1' m1 ys1) (hg : w.grownBy w' v1.ownBlock) (hr : v1'.ownBlock = v1.ownBlock ∨ v1'.ownBlock = some w.heap.size) : Two w0 w' B e1 e2 v1' v2 m1 n2 ys1 xs2 none t2 := by
  have hu := upd_grown hg
  refine ⟨hu.ext h.ext (fun x hx => by have := (h.p.lt x hx).1; have := h.base.1; omega), ⟨h.base.1, Nat.le_trans h.base.2 hu.size⟩, ho, own_upd2 h.m hu (fun x hx e => h.d x e hx), fun b hb => ?_, fun _ _ e => (by cases e), fun v g e => (h.a2 v g e).grown hg hr⟩
  rcases hr with e | e
  · exact h.d b (e ▸ hb)
  · rw [e] at hb
    injection hb with hb
    intro e2
    have := (h.m.lt b e2).2
    omega
theorem Two.app2 (h : Two w0 w B e1 e2 v1 v2 n1 n2 xs1 xs2 t1 t2) (ho : w'.ownsRow B e2 1 v2' m2 ys2) (hg : w.grownBy w' v2.ownBlock) (hr : v2'.ownBlock = v2.ownBlock ∨ v2'.ownBlock = some w.heap.size) : Two w0 w' B e1 e2 v1 v2' n1 m2 xs1 ys2 t1 none := by
  have hu := upd_grown hg
  refine ⟨hu.ext h.ext (fun x hx => by have := (h.m.lt x hx).1; have := h.base.1; omega), ⟨h.base.1, Nat.le_trans h.base.2 hu.size⟩, own_upd2 h.p hu (fun x hx e => h.d x hx e), ho, fun b hb => ?_, fun v g e => ((h.a1 v g e).swap.grown hg hr).swap, fun _ _ e => (by cases e)⟩
  rcases hr with e | e
  · rw [e]; exact h.d b hb
  · rw [e]
    intro e2
    injection e2 with e2
    have := (h.p.lt b hb).2
    omega
theorem own_map2 (A : Option Addr) (n c : Nat) : (Value.slice A n c).ownBlock = A.map (·.block) := by cases A <;> rfl
theorem one_of {v : Value} (h : v.oneCell' = true) : ∀ u ∈ [v], u.oneCell' = true := by
  intro u hu
  simp at hu
  subst hu
  exact h
theorem oi_end {P : Program} {ops : Array Oper} {K : Act → World → Prop} {a : Act} {w : World} (h : K a w) : wpList P ops (onlyN K) [] a w := h
theorem Two.app1' {A : Option Addr} {c : Nat} (h : Two w0 w B e1 e2 v1 v2 n1 n2 xs1 xs2 t1 t2) (ho : w'.ownsRow B e1 1 (.slice A m1 c) m1 ys1) (hg : w.grownBy w' v1.ownBlock) (hr : A.map (·.block) = v1.ownBlock ∨ A.map (·.block) = some w.heap.size) : Two w0 w' B e1 e2 (.slice A m1 c) v2 m1 n2 ys1 xs2 none t2 :=
  h.app1 ho hg (by rw [own_map2]; exact hr)
theorem Two.app2' {A : Option Addr} {c : Nat} (h : Two w0 w B e1 e2 v1 v2 n1 n2 xs1 xs2 t1 t2) (ho : w'.ownsRow B e2 1 (.slice A m2 c) m2 ys2) (hg : w.grownBy w' v2.ownBlock) (hr : A.map (·.block) = v2.ownBlock ∨ A.map (·.block) = some w.heap.size) : Two w0 w' B e1 e2 v1 (.slice A m2 c) n1 m2 xs1 ys2 t1 none :=
  h.app2 ho hg (by rw [own_map2]; exact hr)
theorem blk_one {g : Nat} {e : TypeId} {v : Value} (h : Blk w g e #[v]) : SL w 1 (.slice (some ⟨g, 0, none⟩) 1 1) 1 [v] :=
  ⟨_, _, rfl, by omega, by omega, rfl, fun _ => ⟨_, rfl, h.lt, fun j u hu => by
    have hc := h.cell j
    rw [addr_add]
    simp only [Nat.zero_add]
    rw [hc, ← hu]
    simp⟩⟩
end
end Go.Proofs.YtgmddhljgfbibaaDoor
/- A source of tokens, whatever it is; what a walk over one keeps in memory. -/
namespace Go.Proofs.YtgmddhljgfbibaaDoor
set_option linter.unusedVariables false
set_option linter.unusedSimpArgs false
open Go.RowKit
theorem results_cell_tmp2 {fn : Func} {p u v : Tmp} {ty : TypeId} (h : fn.results = #[.cell p ty, .tmp u, .tmp v]) (tmps : Array Value) (P : Program) (w : World) :
    (results fn tmps).run P w =
      ((asAddr (tmps.getD p undef)).run P w).andThen fun a w₁ => ((loadVar ty a).run P w₁).andThen fun x w₂ => .ok (.tuple #[x, tmps.getD u undef, tmps.getD v undef]) w₂ := by
  simp only [results, h]
  simp [Sem.run_bind, Result.andThen]
theorem ret_cell_tmp2 {P : Program} {a : Act} {w : World} {fn : Func} {R : Ending → World → Prop} {p u v : Tmp} {ty : TypeId} (h : fn.results = #[.cell p ty, .tmp u, .tmp v]) (hdf : a.defers = []) (g : Nat) {t : TypeId} {cs : Array Value}
    (hp : a.tmps.getD p undef = .pointer (some ⟨g, 0, none⟩)) (hB : Blk w g t cs) (d : TypeDesc) (hu : P.underlying ty = some d) (hd : (match d with | .struct _ | .array _ _ => true | _ => false) = true)
    (n : Nat) (hs : (P.info? ty).map (·.size) = some n) (hn : cs.size = n) (hR : R (.returned (.tuple #[.agg cs, a.tmps.getD u undef, a.tmps.getD v undef])) w) : bodyPost P fn R .ret a w := by
  refine bodyPost_ret ?_ hdf hR
  rw [results_cell_tmp2 h]
  have e := run_loadVar_row (P := P) w g t ty cs (0, 0) d hB hu hd (by rw [hn]; exact hs)
  simp [hp, asAddr, e, Result.andThen]
def I64 (x : Int) : Prop := -9223372036854775808 ≤ x ∧ x ≤ 9223372036854775807
section
variable {σ : Type}
/-- asked through f, with what stands ahead of and behind the one argument, the source answers 'next'; it writes blocks of S alone, all below B; what it holds is kept while blocks below B are -/
structure Src (f : FuncId) (pre post : Array Value) (B : Nat) (S : Nat → Prop) (Inv : World → σ → Prop) (next : Bool → σ → Tok × Int × σ) : Prop where
  low : ∀ b, S b → b < B
  ask : ∀ first s W, Inv W s → B ≤ W.heap.size → Calls Tryd.prog f (pre ++ #[.bool first] ++ post) W fun e w' => e = .returned (.tuple #[.agg (tokv (next first s).1).toArray, .int .i64 (next first s).2.1]) ∧ Inv w' (next first s).2.2 ∧ Upd S W w'
  keep : ∀ s W W', Inv W s → Upd (fun b => B ≤ b) W W' → Inv W' s
  wf : ∀ first s W, Inv W s → (next first s).2.1 = 0 → I64 (next first s).1.1 ∧ I64 (next first s).1.2.1 ∧ I64 (next first s).1.2.2
theorem upd_sub {S S' : Nat → Prop} {w w' : World} (h : Upd S w w') (hs : ∀ b, S b → S' b) : Upd S' w w' := ⟨h.os, h.tape, h.output, h.size, fun b hb hn => h.block b hb (fun k => hn (hs b k))⟩
theorem upd_of_ext {S : Nat → Prop} {w w' : World} (h : Ext w w') : Upd S w w' := Upd.of_ext h
/-- the call's own memory: a block of numbers, the result's block, the row of tokens; the source; what came before -/
structure From (B : Nat) (S : Nat → Prop) (Inv : World → σ → Prop) (w0 w : World) (gb gr : Nat) (T24 : TypeId) (z : List Int) (A : Option Addr) (c : Nat) (L : List Tok) (s : σ) : Prop where
  b : Blk w gb T24 (bv z)
  r : Blk w gr T24 (bv (List.replicate 64 0))
  hb : B ≤ gb
  hr : B ≤ gr
  ne : gb ≠ gr
  row : w.ownsRow B 60 3 (.slice A L.length c) L.length (toks L)
  inv : Inv w s
  upd : Upd (fun x => S x ∨ B ≤ x) w0 w
  size : B ≤ w.heap.size
variable {f : FuncId} {pre post : Array Value} {B : Nat} {S : Nat → Prop} {Inv : World → σ → Prop} {next : Bool → σ → Tok × Int × σ} {w0 w w' : World} {gb gr : Nat} {z : List Int} {A : Option Addr} {c : Nat} {L : List Tok} {s s' : σ} {T24 : TypeId}
theorem own_block {e : TypeId} {size n : Nat} {xs : List Value} {v : Value} (h : w.ownsRow B e size v n xs) : ∀ x, v.ownBlock = some x → B ≤ x := fun x hx => (h.lt x hx).1
theorem From.ext (h : From B S Inv w0 w gb gr T24 z A c L s) (C : Src f pre post B S Inv next) (hx : Ext w w') : From B S Inv w0 w' gb gr T24 z A c L s :=
  ⟨h.b.ext hx, h.r.ext hx, h.hb, h.hr, h.ne, own_keep h.row hx, C.keep _ _ _ h.inv (upd_of_ext hx), h.upd.trans (upd_of_ext (S := fun _ => False) hx) (fun x k => k.elim), Nat.le_trans h.size hx.size⟩
theorem From.asked (h : From B S Inv w0 w gb gr T24 z A c L s) (C : Src f pre post B S Inv next) (hu : Upd S w w') (hi : Inv w' s') : From B S Inv w0 w' gb gr T24 z A c L s' :=
  ⟨hu.blk h.b (fun k => by have := C.low _ k; have := h.hb; omega), hu.blk h.r (fun k => by have := C.low _ k; have := h.hr; omega), h.hb, h.hr, h.ne,
    own_upd2 h.row hu (fun x hx k => by have := own_block h.row x hx; have := C.low _ k; omega), hi, h.upd.trans hu (fun x k => .inl (.inl k)), Nat.le_trans h.size hu.size⟩
theorem From.wrote (h : From B S Inv w0 w gb gr T24 z A c L s) (C : Src f pre post B S Inv next) {g : Nat} (hg : w.grownBy w' (some g)) (hB : B ≤ g) (h1 : gb ≠ g) (h2 : gr ≠ g) (h3 : ∀ x, (Value.slice A L.length c).ownBlock = some x → x ≠ g) : From B S Inv w0 w' gb gr T24 z A c L s := by
  have hu := upd_grown hg
  exact ⟨hu.blk h.b (fun k => h1 (Option.some.inj k).symm), hu.blk h.r (fun k => h2 (Option.some.inj k).symm), h.hb, h.hr, h.ne, own_upd2 h.row hu (fun x hx k => h3 x hx (Option.some.inj k).symm),
    C.keep _ _ _ h.inv (upd_sub hu (fun b k => by have := Option.some.inj k; omega)), h.upd.trans hu (fun x k => .inl (.inr (by have := Option.some.inj k; omega))), Nat.le_trans h.size hu.size⟩
/-- a block of the row's type is none of the blocks of numbers -/
theorem From.apart (h : From B S Inv w0 w gb gr T24 z A c L s) (hT : T24 ≠ 60) : ∀ x, (Value.slice A L.length c).ownBlock = some x → gb ≠ x ∧ gr ≠ x := by
  intro x hx
  obtain ⟨-, hh⟩ := h.row
  rcases hh with ⟨e, -⟩ | ⟨g, cap, cur, e, -, hg, -⟩
  · rw [e] at hx; cases hx
  · rw [e] at hx
    have hx : g = x := Option.some.inj hx
    subst hx
    exact ⟨Blk.ne_ h.b (w := w) (g' := g) (t' := 60) (cs' := cur) hg hT, Blk.ne_ h.r (w := w) (g' := g) (t' := 60) (cs' := cur) hg hT⟩
theorem From.app (h : From B S Inv w0 w gb gr T24 z A c L s) (C : Src f pre post B S Inv next) (hT : T24 ≠ 60) {A' : Option Addr} {c' : Nat} {t : Tok}
    (ho : w'.ownsRow B 60 3 (.slice A' (L.length + 1) c') (L.length + 1) (toks L ++ tokv t)) (hg : w.grownBy w' (Value.slice A L.length c).ownBlock) : From B S Inv w0 w' gb gr T24 z A' c' (L ++ [t]) s := by
  have hu := upd_grown hg
  have ha := h.apart hT
  have hlo := own_block h.row
  refine ⟨hu.blk h.b (fun k => (ha _ k).1 rfl), hu.blk h.r (fun k => (ha _ k).2 rfl), h.hb, h.hr, h.ne, ?_, C.keep _ _ _ h.inv (upd_sub hu (fun b k => hlo _ k)), h.upd.trans hu (fun x k => .inl (.inr (hlo _ k))), Nat.le_trans h.size hu.size⟩
  have e1 : (L ++ [t]).length = L.length + 1 := by simp
  have e2 : toks (L ++ [t]) = toks L ++ tokv t := by simp [toks]
  rw [e1, e2]
  exact ho
theorem From.set (h : From B S Inv w0 w gb gr T24 z A c L s) (C : Src f pre post B S Inv next) (hT : T24 ≠ 60) (k : Nat) (x : Int) : From B S Inv w0 (w.setCell ⟨gb, k, none⟩ (.int .i64 x)) gb gr T24 (z.set k x) A c L s := by
  have hu : Upd (fun b => b = gb) w (w.setCell ⟨gb, k, none⟩ (.int .i64 x)) := Upd.setCell (S := fun b => b = gb) (Upd.refl _ w) (p := ⟨gb, k, none⟩) rfl _
  refine ⟨?_, hu.blk h.r (fun k => h.ne k.symm), h.hb, h.hr, h.ne, own_upd2 h.row hu (fun y hy k => (h.apart hT y hy).1 k.symm), C.keep _ _ _ h.inv (upd_sub hu (fun b k => by rw [k]; exact h.hb)), h.upd.trans hu (fun x k => .inl (.inr (by rw [k]; exact h.hb))), Nat.le_trans h.size hu.size⟩
  have := h.b.set_ k (.int .i64 x)
  rwa [bv_set] at this
theorem From.fresh (h : From B S Inv w0 w gb gr T24 z A c L s) {g : Nat} (hg : w.heap.size ≤ g) : B ≤ g ∧ gb ≠ g ∧ gr ≠ g ∧ ∀ x, (Value.slice A L.length c).ownBlock = some x → x ≠ g :=
  ⟨Nat.le_trans h.size hg, by have := h.b.lt; omega, by have := h.r.lt; omega, fun x hx => by have := (h.row.lt x hx).2; omega⟩
/-- a new block is made and written -/
theorem From.made (h : From B S Inv w0 w gb gr T24 z A c L s) (C : Src f pre post B S Inv next) {g : Nat} {w3 : World} (hx : Ext w w3) (hg : w.heap.size ≤ g) (hw : w3.grownBy w' (some g)) : From B S Inv w0 w' gb gr T24 z A c L s := by
  obtain ⟨h1, h2, h3, h4⟩ := h.fresh hg
  exact (h.ext C hx).wrote C hw h1 h2 h3 h4
/-- the block of numbers is written whole -/
theorem From.putb (h : From B S Inv w0 w gb gr T24 z A c L s) (C : Src f pre post B S Inv next) (hT : T24 ≠ 60) {z' : List Int} (hg : w.grownBy w' (some gb)) (hb : Blk w' gb T24 (bv z')) : From B S Inv w0 w' gb gr T24 z' A c L s := by
  have hu := upd_grown hg
  exact ⟨hb, hu.blk h.r (fun k => h.ne (Option.some.inj k)), h.hb, h.hr, h.ne, own_upd2 h.row hu (fun x hx k => (h.apart hT x hx).1 (Option.some.inj k)),
    C.keep _ _ _ h.inv (upd_sub hu (fun b k => by have := Option.some.inj k; have := h.hb; omega)), h.upd.trans hu (fun x k => .inl (.inr (by have := Option.some.inj k; have := h.hb; omega))), Nat.le_trans h.size hu.size⟩
/-- the result is written -/
theorem From.fin (h : From B S Inv w0 w gb gr T24 z A c L s) (C : Src f pre post B S Inv next) (hT : T24 ≠ 60) (hg : w.grownBy w' (some gr)) (hB : B = w0.heap.size) : Inv w' s ∧ Upd S w0 w' ∧ SL w' 3 (.slice A L.length c) L.length (toks L) := by
  have hu := upd_grown hg
  have hq := h.upd.trans hu (S' := fun b => some gr = some b) (fun x k => .inl (.inr (by have := Option.some.inj k; have := h.hr; omega)))
  refine ⟨C.keep _ _ _ h.inv (upd_sub hu (fun b k => by have := Option.some.inj k; have := h.hr; omega)), ?_, own_sl (own_upd2 h.row hu (fun x hx k => (h.apart hT x hx).2 (Option.some.inj k)))⟩
  exact ⟨hq.os, hq.tape, hq.output, hq.size, fun b hb hn => hq.block b hb (fun k => k.elim hn (fun k => by omega))⟩
theorem From.old (h : From B S Inv w0 w gb gr T24 z A c L s) (hB : B = w0.heap.size) : Upd S w0 w :=
  ⟨h.upd.os, h.upd.tape, h.upd.output, h.upd.size, fun b hb hn => h.upd.block b hb (fun k => k.elim hn (fun k => by omega))⟩
end
end Go.Proofs.YtgmddhljgfbibaaDoor
/- Tokens of the reference. -/
namespace Go.Proofs.YtgmddhljgfbibaaDoor
set_option linter.unusedVariables false
set_option linter.unusedSimpArgs false
open Go.RowKit
theorem own_lower {w : World} {B B' : Nat} {e : TypeId} {size n : Nat} {v : Value} {xs : List Value} (h : w.ownsRow B e size v n xs) (hb : B' ≤ B) : w.ownsRow B' e size v n xs := by
  obtain ⟨hl, hh⟩ := h
  refine ⟨hl, ?_⟩
  rcases hh with ⟨rfl, rfl⟩ | ⟨g, cap, cur, rfl, h1, h2⟩
  · exact .inl ⟨rfl, rfl⟩
  · exact .inr ⟨g, cap, cur, rfl, by omega, h2⟩
set_option maxRecDepth 20000 in
set_option maxHeartbeats 1000000 in
theorem rtokens_own (before : Int) (zs : List Int) (w : World) (hz : zs.length = 64) (hb1 : -2047 ≤ before) (hb2 : before ≤ 2047) (hal : allIn zs (-2047) 2047 = true) (h01 : -2047 ≤ (zto zs).getD 0 0) (h02 : (zto zs).getD 0 0 ≤ 2047) :
    Calls Tryd.prog 31 #[.int .i64 before, .agg (bv zs)] w fun e w' => ∃ A c, e = .returned (.tuple #[.slice A (tokensZ before (zto zs)).length c, .int .i64 0]) ∧ w'.ownsRow w.heap.size 60 3 (.slice A (tokensZ before (zto zs)).length c) (tokensZ before (zto zs)).length (toks (tokensZ before (zto zs))) ∧ Ext w w' := by
  have HZT := hid_ (fun W => rzto_any zs W hz)
  have HOB := hid_ (fun W => outside_any before (-2047) 2047 W)
  rw [inB_iff.2 ⟨hb1, hb2⟩] at HOB
  have HBW := hid_ (fun W => blockWithin_any zs (-2047) 2047 W hz)
  rw [hal] at HBW
  have hZl := zto_len zs
  have hsz := hid_ ((bv_size zs).trans hz)
  have hst := hid_ ((bv_size _).trans hZl)
  have hot := hid_ (bv_one (zto zs))
  have hs0 : Hid ((Value.agg (bv zeros64)).cells.size = 64) := hid_ (by rw [show (Value.agg (bv zeros64)).cells = bv zeros64 from rfl, bv_size]; rfl)
  have hz0 := zero48
  have HZ0 := hid_ hz0
  clear hz0
  generalize hZ : zto zs = Z at *
  clear hZ hal
  have h0l : 0 < Z.length := by omega
  have e0 : Z.getD 0 0 = Z[0] := by simp [h0l]
  rw [e0] at h01 h02
  have HAT := hid_ (fun k (hk : k < Z.length) => bv_at Z k hk)
  have HF : Hid (tokensZ before Z = if 0 < (accT (tokZ 0 (Z[0] - before)) (Z.drop 1) 63).2 then (accT (tokZ 0 (Z[0] - before)) (Z.drop 1) 63).1 ++ [(0, 0, 0)] else (accT (tokZ 0 (Z[0] - before)) (Z.drop 1) 63).1) := hid_ (by unfold tokensZ; rw [e0])
  have HT0 := hid_ (fun W => rtoken_any 0 (Z[0] - before) W (by omega) (by omega))
  simp only [tokv_out] at HT0
  generalize bv zeros64 = cz0 at *
  generalize hcz : bv Z = cz at *
  generalize bv zs = c0 at *
  clear hcz hz e0
  generalize ht : tokZ 0 (Z[0] - before) = t0 at *
  clear ht
  have hll : (Z.drop 1).length = 63 := by simp; omega
  have HLL := hid_ hll
  have HLK : Hid (∀ k (h : k < (Z.drop 1).length) (h2 : k + 1 < Z.length), (Z.drop 1)[k] = Z[k + 1]) := hid_ (fun k h h2 => by simp)
  generalize hl : Z.drop 1 = l at *
  clear hl hll
  go_enter Tryd.func31, Tryd.ntmps31
  go_wp2_with (first
    | (refine wpList_box_abs rfl 43 (.tmp 1) rfl c0 rfl ?_; intro w1 gb hbb1 hx1 hgb)
    | (go_at_call 41; (with_reducible refine (HOB.out _).mono ?_); rintro e w' ⟨rfl, rfl⟩)
    | (refine wpList_load_blk_g (by rfl) 43 (.tmp 3) rfl _ rfl hbb1 _ Tryd.underlying43 rfl 64 size48 hsz.out ?_)
    | (go_at_call 57; (with_reducible refine (HBW.out _).mono ?_); rintro e w2 ⟨rfl, hx2⟩; have hbb2 := hbb1.ext hx2)
    | (refine wpList_load_blk rfl 43 (.tmp 3) rfl _ rfl hbb2 _ Tryd.underlying43 rfl 64 size48 hsz.out ?_)
    | (go_at_call 58; (with_reducible refine (HZT.out _).mono ?_); rintro e w3 ⟨rfl, hx3⟩)
    | (refine wpList_alloc_abs' rfl (some 6) rfl 43 rfl _ HZ0.out ?_; intro w4 g hbb4 hx4 hg)
    | (refine wpList_store_blk rfl 43 (.tmp 6) (.tmp 19) rfl _ _ rfl rfl hbb4 64 size48 hst.out hs0.out hot.out ?_; intro w5 hbb5 hg5; have hc0 : w5.cell? ⟨g, 0, none⟩ = some (.int .i64 Z[0]) := (hbb5.cell 0).trans (HAT.out 0 h0l))
    | (go_at_call 59; (with_reducible refine (HT0.out _).mono ?_); rintro e w6 ⟨rfl, hx6⟩))
  have hown0 := own_built3 (w := w6) (base := w5.heap.size) 60 (.int .i64 t0.1) (.int .i64 t0.2.1) (.int .i64 t0.2.2) hx6.size
  have hx7 := hx6.alloc (.cells #[.int .i64 t0.1, .int .i64 t0.2.1, .int .i64 t0.2.2] 60)
  have hbb7 := hbb5.ext hx7
  have hglt := hbb5.lt
  have hxw : Ext w w5 := (((hx1.trans hx2).trans hx3).trans hx4).grown hg5 (by have := ((hx1.trans hx2).trans hx3).size; omega)
  clear hbb1 hbb2 hbb4 hx1 hx2 hx3 hx4 hg5 hc0 hx6 HZT HT0
  generalize hw7 : w6.alloc (.cells #[.int .i64 t0.1, .int .i64 t0.2.1, .int .i64 t0.2.2] 60) = w7 at *
  clear hw7
  go_loopw [7, 8, 9] (fun v r i wr => ∃ (k m : Nat) (la : Int), k ≤ 63 ∧ m = k + 1 ∧ i = .int .i64 (m : Int) ∧ r = .int .i64 la ∧ la = (k : Int) - ((accT t0 l k).2 : Nat) ∧ wr.ownsRow w5.heap.size 60 3 v (accT t0 l k).1.length (toks (accT t0 l k).1) ∧ Blk wr g 43 cz ∧ Ext w5 wr) (fun _ _ i _ => 64 - (intOf i).toNat)
  case atStart => exact ⟨0, 1, 0, by omega, rfl, rfl, rfl, by simp [accT_zero], hown0, hbb7, hx7⟩
  case round =>
    clear hown0 hbb7 hx7
    obtain ⟨k, m, la, hk, hm, rfl, rfl, hla, hown, hbb, hx⟩ := hrel
    obtain ⟨b1, b2⟩ := accT_bd t0 l k (by have := HLL.out; omega) (by omega)
    by_cases hlt : k < 63
    · have hkl : k < l.length := by have := HLL.out; omega
      have hkZ : k + 1 < Z.length := by omega
      have HS := hid_ (accT_succ t0 l k hkl)
      have hcell : wr.cell? ⟨g, m, none⟩ = some (.int .i64 l[k]) := by rw [hm]; exact (hbb.cell (k + 1)).trans (by rw [HAT.out (k + 1) hkZ, HLK.out k hkl hkZ])
      generalize accT t0 l k = s at *
      obtain ⟨acc, rn⟩ := s
      simp only at b1 b2 hown hla ⊢
      have hm1 : 1 ≤ m := by omega
      have hm2 : m < 64 := by omega
      have HM := hid_ hm
      have HLA := hid_ hla
      have hgap : (m : Int) - la - 1 = (rn : Int) := by omega
      have hlb : -64 ≤ la ∧ la ≤ 64 := by omega
      obtain ⟨hlb1, hlb2⟩ := hlb
      clear hm hla
      by_cases hz0 : l[k] = 0
      · rw [stepT_zero hz0] at HS
        generalize hnk : accT t0 l (k + 1) = s1 at *
        have HS1 := HS.out
        have hz0' : (l[k] == 0) = true := by simpa using hz0
        clear hz0 HS
        go_wp2_with fail
        go_roundw
        case rel =>
          refine ⟨k + 1, m + 1, la, by omega, by rw [HM.out], by go_num, rfl, by rw [hnk, HS1]; have := HLA.out; simp; omega, by rw [hnk, HS1]; exact hown, hbb, hx⟩
        case measure => simp [intOf]; omega
      · rw [stepT_one hz0] at HS
        have hz0' : (l[k] == 0) = false := by simpa using hz0
        have HTK := hid_ (fun W => rtoken_any ((rn : Int) % 16) l[k] W (by omega) (by omega))
        simp only [tokv_out] at HTK
        rw [show ((rn % 16 : Nat) : Int) = (rn : Int) % 16 by omega] at HS
        generalize tokZ ((rn : Int) % 16) l[k] = tk at *
        generalize hnk : accT t0 l (k + 1) = s1 at *
        have HS1 := hid_ HS.out
        have HNK := hid_ hnk
        clear hz0 HS hnk
        go_wp2_with fail
        go_loopw [7, 40] (fun v r wr2 => ∃ j : Nat, j ≤ rn / 16 ∧ r = .int .i64 (j : Int) ∧ wr2.ownsRow w5.heap.size 60 3 v (acc ++ List.replicate j long).length (toks (acc ++ List.replicate j long)) ∧ Blk wr2 g 43 cz ∧ Ext w5 wr2) (fun _ r _ => rn / 16 - (intOf r).toNat)
        case atStart => exact ⟨0, by omega, rfl, by simpa using hown, hbb, hx⟩
        case round =>
          clear hown hbb hx hcell
          obtain ⟨j, hj, rfl, hown, hbb, hx⟩ := hrel
          have hlen : (acc ++ List.replicate j long).length = acc.length + j := by simp
          by_cases hj2 : j < rn / 16
          · have hgt : decide ((j : Int) < (rn : Int) / 16) = true := by simp; omega
            go_wp2_with (at_builtin; go_must (refine wpList_append_sl elt_tok rfl _ _ rfl w5.heap.size _ _ _ rfl (hown.alloc _) _ 1 [.int .i64 _, .int .i64 _, .int .i64 _] rfl (one_sl3 _ _ _ _ _) (tok_one _ _ _) (by omega) (by omega) (by have := hx.size; simp; omega) ?_); intro v' w8 hown8 hb8)
            go_roundw
            case rel =>
              refine ⟨j + 1, by omega, by go_num, ?_, (hbb.alloc _).below hb8 hglt, (hx.alloc _).trans' hb8⟩
              rw [List.replicate_succ', ← List.append_assoc]
              exact own_tok hown8
            case measure => simp [intOf]; omega
          · obtain rfl : j = rn / 16 := by omega
            have hgt : decide (((rn / 16 : Nat) : Int) < (rn : Int) / 16) = false := by simp
            have hcell2 : wr.cell? ⟨g, m, none⟩ = some (.int .i64 l[k]) := by rw [HM.out]; exact (hbb.cell (k + 1)).trans (by rw [HAT.out (k + 1) hkZ, HLK.out k hkl hkZ])
            go_wp2_with (first
              | (go_at_call 59; (with_reducible refine (HTK.out _).mono ?_); rintro e w8 ⟨rfl, hx8⟩)
              | (at_builtin; go_must (refine wpList_append_sl elt_tok rfl _ _ rfl w5.heap.size _ _ _ rfl ((own_ext hown hx8).alloc _) _ 1 [.int .i64 _, .int .i64 _, .int .i64 _] rfl (one_sl3 _ _ _ _ _) (tok_one _ _ _) (by omega) (by omega) (by have := hx.size; have := hx8.size; simp; omega) ?_); intro v' w9 hown9 hb9))
            go_roundw
            case rel =>
              refine ⟨k + 1, m + 1, m, by omega, by rw [HM.out], by go_num, rfl, by rw [HNK.out, HS1.out]; have := HM.out; simp; omega, ?_, ((hbb.ext hx8).alloc _).below hb9 hglt, ((hx.trans hx8).alloc _).trans' hb9⟩
              rw [HNK.out, HS1.out]
              exact own_tok hown9
            case measure => simp [intOf]; omega
    · have ek : k = 63 := by omega
      subst ek
      subst hm
      generalize accT t0 l 63 = s at *
      obtain ⟨acc, rn⟩ := s
      simp only at b1 b2 hown HF hla
      by_cases hr : 0 < rn
      · rw [if_pos hr] at HF
        have hlt3 : decide (la < 63) = true := by simp; omega
        clear hla
        go_wp2_with (at_builtin; go_must (refine wpList_append_sl elt_tok rfl _ _ rfl w5.heap.size _ _ _ rfl (hown.alloc _) _ 1 [.int .i64 _, .int .i64 _, .int .i64 _] rfl (one_sl3 _ _ _ _ _) (tok_one _ _ _) (by omega) (by omega) (by have := hx.size; simp; omega) ?_); intro v' w8 hown8 hb8)
        go_ret2
        rw [HF.out]
        have hown9 := own_tok hown8
        obtain ⟨A, c, rfl, -, -⟩ := own_form hown9
        exact ⟨A, c, rfl, own_lower hown9 hxw.size, hxw.trans ((hx.alloc _).trans' hb8)⟩
      · rw [if_neg hr] at HF
        have hlt3 : decide (la < 63) = false := by simp; omega
        clear hla
        go_wp2_with fail
        go_ret2
        rw [HF.out]
        obtain ⟨A, c, rfl, -, -⟩ := own_form hown
        exact ⟨A, c, rfl, own_lower hown hxw.size, hxw.trans hx⟩
theorem rtokens_fresh (before : Int) (zs : List Int) (w : World) (hz : zs.length = 64) (hb1 : -2047 ≤ before) (hb2 : before ≤ 2047) (hal : allIn zs (-2047) 2047 = true) (h01 : -2047 ≤ (zto zs).getD 0 0) (h02 : (zto zs).getD 0 0 ≤ 2047) :
    Calls Tryd.prog 31 #[.int .i64 before, .agg (bv zs)] w fun e w' => ∃ A c, e = .returned (.tuple #[.slice A (tokensZ before (zto zs)).length c, .int .i64 0]) ∧ SL w' 3 (.slice A (tokensZ before (zto zs)).length c) (tokensZ before (zto zs)).length (toks (tokensZ before (zto zs))) ∧ (∀ ad, A = some ad → w.heap.size ≤ ad.block) ∧ Ext w w' :=
  (rtokens_own before zs w hz hb1 hb2 hal h01 h02).mono fun _ _ ⟨A, c, e, h1, h2⟩ => ⟨A, c, e, by
    obtain ⟨A', c', e2, h3, h4⟩ := own_form h1
    injection e2 with e3 _ e4
    subst e3 e4
    exact ⟨h3, h4, h2⟩⟩
theorem rtokens_in (before : Int) (zs : List Int) (w : World) (hz : zs.length = 64) (hb1 : -2047 ≤ before) (hb2 : before ≤ 2047) (hal : allIn zs (-2047) 2047 = true) (h01 : -2047 ≤ (zto zs).getD 0 0) (h02 : (zto zs).getD 0 0 ≤ 2047) :
    Calls Tryd.prog 31 #[.int .i64 before, .agg (bv zs)] w fun e w' => ∃ A c, e = .returned (.tuple #[.slice A (tokensZ before (zto zs)).length c, .int .i64 0]) ∧ SL w' 3 (.slice A (tokensZ before (zto zs)).length c) (tokensZ before (zto zs)).length (toks (tokensZ before (zto zs))) ∧ Ext w w' :=
  (rtokens_fresh before zs w hz hb1 hb2 hal h01 h02).mono fun _ _ ⟨A, c, e, h1, _, h2⟩ => ⟨A, c, e, h1, h2⟩
set_option maxHeartbeats 400000 in
theorem rtokens_out (before : Int) (zs : List Int) (w : World) (hz : zs.length = 64) (h : inB before (-2047) 2047 = false ∨ (inB before (-2047) 2047 = true ∧ allIn zs (-2047) 2047 = false)) :
    Calls Tryd.prog 31 #[.int .i64 before, .agg (bv zs)] w fun e w' => e = .returned (.tuple #[.slice none 0 0, .int .i64 1]) ∧ Ext w w' := by
  have HOB := hid_ (fun W => outside_any before (-2047) 2047 W)
  have HBW := hid_ (fun W => blockWithin_any zs (-2047) 2047 W hz)
  have hsz := hid_ ((bv_size zs).trans hz)
  generalize bv zs = c0 at *
  rcases h with h | ⟨h, h2⟩
  · rw [h] at HOB
    clear h
    go_enter Tryd.func31, Tryd.ntmps31
    go_wp2_with (first
      | (refine wpList_box_abs rfl 43 (.tmp 1) rfl c0 rfl ?_; intro w1 gb hbb1 hx1 hgb)
      | (go_at_call 41; (with_reducible refine (HOB.out _).mono ?_); rintro e w' ⟨rfl, rfl⟩))
    go_ret2
    exact ⟨rfl, hx1⟩
  · rw [h] at HOB
    rw [h2] at HBW
    clear h h2
    go_enter Tryd.func31, Tryd.ntmps31
    go_wp2_with (first
      | (refine wpList_box_abs rfl 43 (.tmp 1) rfl c0 rfl ?_; intro w1 gb hbb1 hx1 hgb)
      | (go_at_call 41; (with_reducible refine (HOB.out _).mono ?_); rintro e w' ⟨rfl, rfl⟩)
      | (refine wpList_load_blk_g (by rfl) 43 (.tmp 3) rfl _ rfl hbb1 _ Tryd.underlying43 rfl 64 size48 hsz.out ?_)
      | (go_at_call 57; (with_reducible refine (HBW.out _).mono ?_); rintro e w2 ⟨rfl, hx2⟩))
    go_ret2
    exact ⟨rfl, hx1.trans hx2⟩
end Go.Proofs.YtgmddhljgfbibaaDoor
/- Arguments opened: what their reading says of their cells. -/
namespace Go.Proofs.YtgmddhljgfbibaaDoor
set_option linter.unusedVariables false
set_option linter.unusedSimpArgs false
open Go.RowKit Go.ChangeShapes Go.WideShapes Go.ChangeAt
def inI64 (z : Int) : Prop := -9223372036854775808 ≤ z ∧ z ≤ 9223372036854775807
theorem inI64_of_wf {z : Int} (h : (Lit.int .i64 z).wf = true) : inI64 z := by
  simp [Lit.wf, IntKind.min, IntKind.max, IntKind.signed, IntKind.bits] at h
  exact ⟨by omega, by omega⟩
theorem ints_of_cells {Q : Int → Prop} : ∀ (cs : List Value), (∀ i, i < cs.length → ∃ z, cs[i]? = some (.int .i64 z) ∧ Q z) → ∃ zs : List Int, cs = ints zs ∧ ∀ z ∈ zs, Q z
  | [], _ => ⟨[], rfl, by simp⟩
  | c :: cs, h => by
    obtain ⟨z, hz, hq⟩ := h 0 (by simp)
    obtain ⟨zs, rfl, hqs⟩ := ints_of_cells cs (fun i hi => by have := h (i + 1) (by simpa using hi); simpa using this)
    refine ⟨z :: zs, ?_, ?_⟩
    · simp at hz; subst hz; rfl
    · intro y hy
      cases hy with
      | head => exact hq
      | tail _ hy => exact hqs y hy
section
variable {H : Type} {enc : TypeId × Value → H} {P : Program} {w : World} {base : Nat} {spare : Nat → Bool} {held : Bool}
theorem trod_int_cell {t : TypeId} {fuel : Nat} {cs : List Value} {x : DataW H × List MemPlace} (ht : P.underlying t = some (.int .i64)) (h : DataW.trod enc P w base spare held fuel t cs = some x) :
    ∃ z, cs = [.int .i64 z] ∧ inI64 z := by
  obtain ⟨z, e, -, hw⟩ := DataW.trod_int ht h
  exact ⟨z, e, inI64_of_wf hw⟩
theorem trod_ints_arr {n : Nat} {t e : TypeId} {fuel : Nat} {cs : List Value} {x : DataW H × List MemPlace} (ht : P.underlying t = some (.array n e)) (he : P.underlying e = some (.int .i64)) (hce : P.cellsOf e = 1) (hct : P.cellsOf t = n)
    (h : DataW.trod enc P w base spare held fuel t cs = some x) : ∃ zs : List Int, zs.length = n ∧ cs = ints zs ∧ ∀ z ∈ zs, inI64 z := by
  obtain ⟨xs, m, -, -, hlen, hxl, hi⟩ := DataW.trod_array ht h
  rw [hct] at hlen
  have hcells : ∀ i, i < cs.length → ∃ z, cs[i]? = some (.int .i64 z) ∧ inI64 z := by
    intro i hlt
    have h1 := hi i (by omega)
    rw [hce, Nat.mul_one] at h1
    have hx : xs[i]? = some (xs[i]'(by omega)) := List.getElem?_eq_getElem (by omega)
    rw [hx] at h1
    obtain ⟨z, hz, hq⟩ := trod_int_cell he h1
    refine ⟨z, ?_, hq⟩
    rw [List.drop_eq_getElem_cons hlt] at hz
    simp only [List.take_succ_cons, List.take_zero, List.cons.injEq, and_true] at hz
    rw [List.getElem?_eq_getElem hlt, hz]
  obtain ⟨zs, rfl, hq⟩ := ints_of_cells cs hcells
  exact ⟨zs, by simpa [ints_len] using hlen, rfl, hq⟩
theorem okWide_array {P : Program} {w : World} {r : Reach} {base : Nat} {t e : TypeId} {n : Nat} {v : Value} (ht : P.underlying t = some (.array n e)) (h : Value.okWide P w r base t v) : ∃ cs, v = .agg cs ∧ cs.size = P.cellsOf t := by
  simp only [Value.okWide, ht] at h
  obtain ⟨cs, h1, h2, _⟩ := h
  exact ⟨cs, h1, h2⟩
theorem cells64 : Tryd.prog.cellsOf 43 = 64 := by kernel_rfl
theorem cellsInt : Tryd.prog.cellsOf 3 = 1 := by kernel_rfl
set_option maxRecDepth 8000 in
theorem open_block {w : World} {base b0 : Nat} {r : Reach} {v : Value} {d : DataW H} {p : List MemPlace} (hv : Value.okWide Tryd.prog w r b0 43 v) (h : DataW.Trod enc Tryd.prog w base spare held 43 v d p) :
    ∃ zs : List Int, v = .agg (ints zs).toArray ∧ zs.length = 64 ∧ ∀ z ∈ zs, inI64 z := by
  obtain ⟨cs, rfl, hsz⟩ := okWide_array Tryd.underlying43 hv
  obtain ⟨fuel, hf⟩ := h
  obtain ⟨zs, hl, hc, hq⟩ := trod_ints_arr Tryd.underlying43 Tryd.underlying3 cellsInt cells64 hf
  refine ⟨zs, ?_, hl, hq⟩
  have : cs.toList = ints zs := hc
  rw [← this]
end
end Go.Proofs.YtgmddhljgfbibaaDoor
/- run.isCoef, run.Tokens, the walk of the law RunTokens. -/
namespace Go.Proofs.YtgmddhljgfbibaaDoor
set_option linter.unusedVariables false
set_option linter.unusedSimpArgs false
open Go.RowKit
theorem isCoef_any (n : Int) (w : World) : Calls Tryd.prog 64 #[.int .i64 n] w fun e w' => e = .returned (.bool (inB n (-2047) 2047)) ∧ w = w' := by
  by_cases h : -2047 ≤ n
  · have h' : decide (-2047 ≤ n) = true := by simpa using h
    have e : inB n (-2047) 2047 = decide (n ≤ 2047) := by simp [inB]; omega
    rw [e]; clear e
    go_enter Tryd.func64, Tryd.ntmps64
    go_wp2_with fail
    go_ret
    exact ⟨rfl, rfl⟩
  · have h' : decide (-2047 ≤ n) = false := by simpa using h
    have e : inB n (-2047) 2047 = false := inB_not.2 (by omega)
    rw [e]; clear e
    go_enter Tryd.func64, Tryd.ntmps64
    go_wp2_with fail
    go_ret
    exact ⟨rfl, rfl⟩
theorem tokens1_any (n : Int) (w : World) : Calls Tryd.prog 80 (#[.int .i64 n] ++ #[]) w fun e w' => e = .returned (.bool (!inB n (-2047) 2047)) ∧ w = w' := by
  have HC := hid_ (fun W => isCoef_any n W)
  generalize inB n (-2047) 2047 = b at *
  go_enter Tryd.func80, Tryd.ntmps80
  go_wp2_with (go_at_call 64; (with_reducible refine (HC.out _).mono ?_); rintro e w' ⟨rfl, rfl⟩)
  go_ret
  exact ⟨rfl, rfl⟩
theorem enters_tokens1 : Enters Tryd.prog 80 := enters_of Tryd.func80 (by kernel_rfl) rfl
set_option maxHeartbeats 400000 in
theorem rtok_bad (before : Int) (zs : List Int) (w : World) (hz : zs.length = 64) (h : inB before (-2047) 2047 = false ∨ (inB before (-2047) 2047 = true ∧ allIn zs (-2047) 2047 = false)) :
    Calls Tryd.prog 55 #[.int .i64 before, .agg (bv zs)] w fun e w' => e = .returned (.tuple #[.slice none 0 0, .int .i64 1]) ∧ Ext w w' := by
  have HOB := hid_ (fun W => isCoef_any before W)
  have HSL := hid_ (fun (W : World) g (h : Blk W g 43 (bv zs)) => h.bsl (c := 64) (by omega) (by omega))
  rw [hz] at HSL
  have HCF := hid_ (fun W v (hs : SL W 1 v 64 (ints zs)) => containsFunc_any 80 #[] (fun z => !inB z (-2047) 2047) enters_tokens1 v zs W (by rw [hz]; exact hs) (fun z _ => tokens1_any z W))
  simp only [inB_any] at HCF
  generalize bv zs = c0 at *
  rcases h with h | ⟨h, h2⟩
  · rw [h] at HOB
    clear h
    go_enter Tryd.func55, Tryd.ntmps55
    go_wp2_with (first
      | (refine wpList_box_abs rfl 43 (.tmp 1) rfl c0 rfl ?_; intro w1 gb hbb1 hx1 hgb)
      | (go_at_call 64; (with_reducible refine (HOB.out _).mono ?_); rintro e w' ⟨rfl, rfl⟩))
    go_ret2
    exact ⟨rfl, hx1⟩
  · rw [h] at HOB
    rw [h2] at HCF
    clear h h2
    go_enter Tryd.func55, Tryd.ntmps55
    go_wp2_with (first
      | (refine wpList_box_abs rfl 43 (.tmp 1) rfl c0 rfl ?_; intro w1 gb hbb1 hx1 hgb; have hsl := HSL.out _ _ hbb1)
      | (go_at_call 64; (with_reducible refine (HOB.out _).mono ?_); rintro e w' ⟨rfl, rfl⟩)
      | (go_at_call 79; (with_reducible refine (HCF.out _ _ hsl).mono ?_); rintro e w' ⟨rfl, rfl⟩))
    go_ret2
    exact ⟨rfl, hx1⟩
set_option maxHeartbeats 400000 in
theorem rtok_fresh (before : Int) (zs : List Int) (w : World) (hz : zs.length = 64) (hb1 : -2047 ≤ before) (hb2 : before ≤ 2047) (hal : allIn zs (-2047) 2047 = true) (h01 : -2047 ≤ (zto zs).getD 0 0) (h02 : (zto zs).getD 0 0 ≤ 2047) :
    Calls Tryd.prog 55 #[.int .i64 before, .agg (bv zs)] w fun e w' => ∃ A c, e = .returned (.tuple #[.slice A (tokensZ before (zto zs)).length c, .int .i64 0]) ∧ SL w' 3 (.slice A (tokensZ before (zto zs)).length c) (tokensZ before (zto zs)).length (toks (tokensZ before (zto zs))) ∧ (∀ ad, A = some ad → w.heap.size ≤ ad.block) ∧ Ext w w' := by
  have HOB := hid_ (fun W => isCoef_any before W)
  rw [inB_iff.2 ⟨hb1, hb2⟩] at HOB
  have HSL := hid_ (fun (W : World) g (h : Blk W g 43 (bv zs)) => h.bsl (c := 64) (by omega) (by omega))
  rw [hz] at HSL
  have HCF := hid_ (fun W v (hs : SL W 1 v 64 (ints zs)) => containsFunc_any 80 #[] (fun z => !inB z (-2047) 2047) enters_tokens1 v zs W (by rw [hz]; exact hs) (fun z _ => tokens1_any z W))
  simp only [inB_any, hal] at HCF
  have HT := hid_ (fun W => tokens_any before zs W hz hb1 hb2 h01 h02)
  have hsz := hid_ ((bv_size zs).trans hz)
  generalize tokensZ before (zto zs) = T at *
  generalize bv zs = c0 at *
  clear hal h01 h02
  go_enter Tryd.func55, Tryd.ntmps55
  go_wp2_with (first
    | (refine wpList_box_abs rfl 43 (.tmp 1) rfl c0 rfl ?_; intro w1 gb hbb1 hx1 hgb; have hsl := HSL.out _ _ hbb1)
    | (go_at_call 64; (with_reducible refine (HOB.out _).mono ?_); rintro e w' ⟨rfl, rfl⟩)
    | (go_at_call 79; (with_reducible refine (HCF.out _ _ hsl).mono ?_); rintro e w' ⟨rfl, rfl⟩)
    | (refine wpList_load_blk rfl 43 (.tmp 3) rfl _ rfl hbb1 _ Tryd.underlying43 rfl 64 size48 hsz.out ?_)
    | (go_at_call 67; (with_reducible refine (HT.out _).mono ?_); rintro e w2 ⟨A, c, rfl, hs2, hf2, hx2⟩))
  go_ret2
  exact ⟨A, c, rfl, hs2, fun ad e => Nat.le_trans hx1.size (hf2 ad e), hx1.trans hx2⟩
theorem rtok_good (before : Int) (zs : List Int) (w : World) (hz : zs.length = 64) (hb1 : -2047 ≤ before) (hb2 : before ≤ 2047) (hal : allIn zs (-2047) 2047 = true) (h01 : -2047 ≤ (zto zs).getD 0 0) (h02 : (zto zs).getD 0 0 ≤ 2047) :
    Calls Tryd.prog 55 #[.int .i64 before, .agg (bv zs)] w fun e w' => ∃ A c, e = .returned (.tuple #[.slice A (tokensZ before (zto zs)).length c, .int .i64 0]) ∧ SL w' 3 (.slice A (tokensZ before (zto zs)).length c) (tokensZ before (zto zs)).length (toks (tokensZ before (zto zs))) ∧ Ext w w' :=
  (rtok_fresh before zs w hz hb1 hb2 hal h01 h02).mono fun _ _ ⟨A, c, e, h1, _, h2⟩ => ⟨A, c, e, h1, h2⟩
end Go.Proofs.YtgmddhljgfbibaaDoor
