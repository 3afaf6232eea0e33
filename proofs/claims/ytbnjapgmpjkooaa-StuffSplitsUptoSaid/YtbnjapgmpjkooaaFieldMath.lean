/- Fields of bits (width, value): flat lists, what they answer; bits.isWidth. -/
import Derived.Test.YtbnjapgmpjkooaaDraw
import Derived.Test.YtbnjapgmpjkooaaBitMath
import Derived.Test.YtbnjapgmpjkooaaOpenMulti
namespace Go.Proofs.Ytbnjapgmpjkooaa
set_option linter.unusedVariables false
set_option linter.unusedSimpArgs false
open Go.RowKit
def flatF (F : List (Int × Int)) : List Int := F.flatMap fun f => [f.1, f.2]
theorem unflatF : ∀ (n : Nat) (zs : List Int), zs.length = n * 2 → ∃ F : List (Int × Int), F.length = n ∧ zs = flatF F
  | 0, zs, h => ⟨[], rfl, by simpa [flatF] using h⟩
  | n + 1, [], h => by simp at h
  | n + 1, [a], h => by simp at h; omega
  | n + 1, a :: b :: r, h => by
    obtain ⟨F, h1, rfl⟩ := unflatF n r (by simp at h; omega)
    exact ⟨(a, b) :: F, by simp [h1], by simp [flatF]⟩
theorem flatF_part : ∀ (F : List (Int × Int)) (k : Nat) (h : k < F.length), ((ints (flatF F)).drop (k * 2)).take 2 = ints [F[k].1, F[k].2]
  | f :: F, 0, _ => by simp [flatF, ints]
  | f :: F, k + 1, h => by
    have := flatF_part F k (by simpa using h)
    rw [show (k + 1) * 2 = k * 2 + 1 + 1 by omega]
    simpa [flatF, ints] using this
  | [], k, h => by simp at h
theorem flatF_mem {F : List (Int × Int)} {f : Int × Int} (h : f ∈ F) : f.1 ∈ flatF F ∧ f.2 ∈ flatF F := by
  constructor <;> exact List.mem_flatMap.2 ⟨f, h, by simp⟩
def okF (f : Int × Int) : Bool := inB f.1 0 24 && inB f.2 0 (2 ^ f.1.toNat - 1)
def bitsF (F : List (Int × Int)) : List Bool := F.flatMap fun f => digs f.2.toNat f.1.toNat
theorem bitsF_succ (F : List (Int × Int)) (k : Nat) (h : k < F.length) : bitsF (F.take (k + 1)) = bitsF (F.take k) ++ digs F[k].2.toNat F[k].1.toNat := by
  unfold bitsF
  rw [List.take_succ_eq_append_getElem h, List.flatMap_append]
  simp
theorem bitsF_len (F : List (Int × Int)) (h : ∀ f ∈ F, okF f = true) : (bitsF F).length ≤ 24 * F.length := by
  induction F with
  | nil => simp [bitsF]
  | cons f l ih =>
    have h1 := ih (fun g hg => h g (by simp [hg]))
    have h2 := h f (by simp)
    unfold okF at h2
    rw [Bool.and_eq_true, inB_iff] at h2
    simp only [bitsF, List.flatMap_cons, List.length_append, List.length_cons, digs_len] at h1 ⊢
    omega
/-- what Write answers -/
def bwZ (F : List (Int × Int)) : List Nat × Int := if F.length ≤ 20000 then (if F.all okF then (packB (padB (bitsF F)), 0) else ([], 1)) else ([], 2)
theorem bwZ_long {F : List (Int × Int)} (h : ¬ F.length ≤ 20000) : bwZ F = ([], 2) := by unfold bwZ; rw [if_neg h]
theorem bwZ_bad {F : List (Int × Int)} (h : F.length ≤ 20000) {k : Nat} (hk : k < F.length) (hb : okF F[k] = false) : bwZ F = ([], 1) := by
  have : F.all okF = false := by
    rw [← Bool.not_eq_true]
    intro h2
    have := List.all_eq_true.1 h2 _ (List.getElem_mem hk)
    rw [hb] at this
    cases this
  unfold bwZ
  rw [if_pos h, this]; rfl
theorem bwZ_good {F : List (Int × Int)} (h : F.length ≤ 20000) (hb : ∀ f ∈ F, okF f = true) : bwZ F = (packB (padB (bitsF F)), 0) := by
  unfold bwZ
  rw [if_pos h, List.all_eq_true.2 hb]; rfl
theorem okF_w {a b : Int} (h : inB a 0 24 = false) : okF (a, b) = false := by simp [okF, h]
theorem okF_v {a b : Int} (h : inB b 0 (2 ^ a.toNat - 1) = false) : okF (a, b) = false := by simp [okF, h]
theorem okF_y {a b : Int} (h1 : inB a 0 24 = true) (h2 : inB b 0 (2 ^ a.toNat - 1) = true) : okF (a, b) = true := by simp [okF, h1, h2]
theorem sizeField : (Try.prog.info? 28).map (·.size) = some 2 := by kernel_rfl
theorem zeroField : (Try.prog.info? 28).bind (·.zero) = some (.agg #[.int .i64 0, .int .i64 0]) := by kernel_rfl
theorem cellsField : Try.prog.cellsOf 28 = 2 := by kernel_rfl
theorem fieldSL {w : World} {g : Nat} {t : TypeId} {x y : Int} (h : Blk w g t #[.int .i64 x, .int .i64 y]) : SL w 2 (.slice (some ⟨g, 0, none⟩) 1 1) 1 (ints [x, y]) :=
  ⟨_, _, rfl, by omega, by omega, by simp [ints], fun _ => ⟨_, rfl, h.lt, fun j u hu => by
    have := h.cell j
    rw [addr_add]
    simp only [Nat.zero_add]
    rw [this, ← hu]
    simp [ints]⟩⟩
section
open Go.ChangeShapes Go.WideShapes Go.ChangeAt
variable {H : Type} {enc : TypeId × Value → H} {w : World} {base : Nat} {spare : Nat → Bool} {held : Bool}
theorem trod_struct2 {P : Program} {t : TypeId} {f0 f1 : Field} {fuel : Nat} {cs : List Value} {x : DataW H × List MemPlace} (ht : P.underlying t = some (.struct #[f0, f1])) (h : DataW.trod enc P w base spare held fuel t cs = some x) :
    ∃ y0 y1 n, cs.length = P.cellsOf t ∧ DataW.trod enc P w base spare held n f0.type ((cs.drop f0.offset).take (P.cellsOf f0.type)) = some y0 ∧
      DataW.trod enc P w base spare held n f1.type ((cs.drop f1.offset).take (P.cellsOf f1.type)) = some y1 := by
  obtain ⟨xs, n, _, rfl, hl, hlen, hf⟩ := DataW.trod_struct ht h
  match xs, hlen with
  | [y0, y1], _ => exact ⟨y0, y1, n, hl, by simpa using hf 0 f0 rfl, by simpa using hf 1 f1 rfl⟩
theorem trod_field {fuel : Nat} {cs : List Value} {x : DataW H × List MemPlace} (h : DataW.trod enc Try.prog w base spare held fuel 28 cs = some x) : ∃ zs : List Int, zs.length = 2 ∧ cs = ints zs ∧ ∀ z ∈ zs, inI64 z := by
  obtain ⟨y0, y1, n, hl, h0, h1⟩ := trod_struct2 Try.underlying28 h
  rw [cellsField] at hl
  dsimp only at h0 h1
  rw [cellsInt] at h0 h1
  obtain ⟨a, e0, ha2⟩ := trod_int_cell Try.underlying3 h0
  obtain ⟨b, e1, hb2⟩ := trod_int_cell Try.underlying3 h1
  clear h h0 h1
  match cs, hl with
  | [u, v], _ =>
    simp at e0 e1
    subst e0 e1
    exact ⟨[a, b], rfl, rfl, by simp [ha2, hb2]⟩
set_option maxRecDepth 20000 in
theorem open_fields_v {b0 : Nat} {r : Reach} {v : Value} {d : DataW H} {p : List MemPlace} (hv : Value.okWide Try.prog w r b0 22 v) (h : DataW.Trod enc Try.prog w base spare held 22 v d p) :
    ∃ zs : List Int, (SL w 2 v (zs.length / 2) (ints zs) ∧ zs.length = zs.length / 2 * 2) ∧ ∀ z ∈ zs, inI64 z := by
  obtain ⟨fuel, hf⟩ := h
  obtain ⟨u, n, zs, hcs, hl, hs, hz⟩ := open_multi (sz := 2) Try.underlying22 cellsField (by decide) (fun fuel cs x hx => trod_field hx) hf
  have : v = u := slice_value Try.underlying22 hv hcs (by obtain ⟨A, c, rfl, -⟩ := hs; simp)
  subst this
  refine ⟨zs, ⟨?_, by omega⟩, hz⟩
  rwa [show zs.length / 2 = n by omega]
end
theorem isWidth_any (n : Int) (w : World) : Calls Try.prog 25 #[.int .i64 n] w fun e w' => e = .returned (.bool (inB n 0 24)) ∧ w = w' := by
  by_cases h : 0 ≤ n
  · have h' : decide (0 ≤ n) = true := by simpa using h
    have e : inB n 0 24 = decide (n ≤ 24) := by rw [Bool.eq_iff_iff, inB_iff]; simp; omega
    rw [e]; clear e
    go_enter Try.func25, Try.ntmps25
    go_wp2
    go_ret
    exact ⟨rfl, rfl⟩
  · have h' : decide (0 ≤ n) = false := by simpa using h
    have e : inB n 0 24 = false := by rw [inB_not]; omega
    rw [e]; clear e
    go_enter Try.func25, Try.ntmps25
    go_wp2
    go_ret
    exact ⟨rfl, rfl⟩
theorem run_shl1 (a : Nat) (h : a ≤ 24) (W : World) : (binOp .shl 3 (.int .i64 1) (.int .i64 (a : Int))).run Try.prog W = .ok (.int .i64 (2 ^ a)) W := by
  have h1 : (2 : Int) ^ a ≤ 2 ^ 24 := by have := Nat.pow_le_pow_right (n := 2) (by omega) h; exact_mod_cast this
  have h2 : (0 : Int) ≤ 2 ^ a := by exact_mod_cast Nat.zero_le (2 ^ a)
  have h3 : (2 : Int) ^ 24 = 16777216 := by decide
  rw [h3] at h1
  have e : IntKind.i64.wrap (2 ^ a) = 2 ^ a := IntWalk.i64_in _ (by omega)
  have e2 : ¬ ((a : Int) < 0) := by omega
  simp [binOp, e, e2]
end Go.Proofs.Ytbnjapgmpjkooaa
