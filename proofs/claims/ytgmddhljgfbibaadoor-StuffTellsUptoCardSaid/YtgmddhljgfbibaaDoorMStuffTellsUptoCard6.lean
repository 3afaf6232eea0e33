/- Contracts for the law StuffTellsUptoCard, part 6: what the functions that it reaches answer, for all arguments that the theorems name. -/
import Derived.Deep.Slices
import Derived.Test.YtgmddhljgfbibaaDoorMStuffTellsUptoCard5
import Derived.Test.YtgmddhljgfbibaaDoorMStuffTellsUptoCard3
import Derived.Test.YtgmddhljgfbibaaDoorMStuffTellsUptoCard4
import Derived.Test.YtgmddhljgfbibaaDoorMStuffTellsUptoCard1
import Derived.OwnWalk
import Derived.Deep.Cut
/- Opening a parameter that is a slice of elements of several integers each (blocks, tokens, fields). -/
namespace Go.Proofs.YtgmddhljgfbibaaDoor
set_option linter.unusedVariables false
set_option linter.unusedSimpArgs false
open Go.RowKit Go.ChangeShapes Go.WideShapes Go.ChangeAt
theorem flat_at {α : Type} (f : Nat → List α) (sz : Nat) : ∀ n : Nat, (∀ i, i < n → (f i).length = sz) → ((List.range n).flatMap f).length = n * sz ∧ ∀ i j, i < n → j < sz → ((List.range n).flatMap f)[i * sz + j]? = (f i)[j]?
  | 0, _ => ⟨by simp, fun i j h => by omega⟩
  | n + 1, h => by
    obtain ⟨h1, h2⟩ := flat_at f sz n (fun i hi => h i (by omega))
    have hl := h n (by omega)
    rw [List.range_succ, List.flatMap_append]
    refine ⟨by simp only [List.length_append, h1, List.flatMap_cons, List.flatMap_nil, List.append_nil, hl]; rw [Nat.add_mul]; omega, fun i j hi hj => ?_⟩
    rcases Nat.lt_or_ge i n with hlt | hge
    · have : i * sz + j < n * sz := by
        have := Nat.mul_le_mul_right sz (show i + 1 ≤ n by omega)
        rw [Nat.add_mul] at this
        omega
      rw [List.getElem?_append_left (by omega)]
      exact h2 i j hlt hj
    · obtain rfl : i = n := by omega
      rw [List.getElem?_append_right (by omega), h1, show i * sz + j - i * sz = j by omega]
      simp
section
variable {H : Type} {enc : TypeId × Value → H} {P : Program} {w : World} {base : Nat} {spare : Nat → Bool} {held : Bool}
theorem open_multi {t e : TypeId} {sz fuel : Nat} {cs : List Value} {x : DataW H × List MemPlace} (ht : P.underlying t = some (.slice e)) (hsz : P.cellsOf e = sz) (h0 : 0 < sz)
    (hel : ∀ (fuel : Nat) (cs : List Value) (x : DataW H × List MemPlace), DataW.trod enc P w base spare held fuel e cs = some x → ∃ zs : List Int, zs.length = sz ∧ cs = ints zs ∧ ∀ z ∈ zs, inI64 z)
    (h : DataW.trod enc P w base spare held fuel t cs = some x) : ∃ (v : Value) (n : Nat) (zs : List Int), cs = [v] ∧ zs.length = n * sz ∧ SL w sz v n (ints zs) ∧ ∀ z ∈ zs, inI64 z := by
  rcases Go.Deep.open_slice ht h with ⟨rfl, -⟩ | ⟨a, len, cap, m, n, D, Pl, rfl, -, hl, hm, hmm, -, hx⟩
  · exact ⟨_, 0, [], rfl, by simp, SL.nil w sz, by simp⟩
  · rw [hsz] at hx
    have hle : len ≤ m := by rw [hmm]; split <;> omega
    obtain ⟨f, hf⟩ := Go.Deep.choose_lt (α := List Int) (n := len) (p := fun i zs => zs.length = sz ∧ w.cells? base (a.add (i * sz)) sz = some (ints zs) ∧ ∀ z ∈ zs, inI64 z) (fun i hi => by
      obtain ⟨cs', h1, h2⟩ := hx i (by omega)
      obtain ⟨zs, hz1, rfl, hz3⟩ := hel _ _ _ h2
      exact ⟨zs, hz1, h1, hz3⟩)
    obtain ⟨hfl, hfa⟩ := flat_at f sz len (fun i hi => (hf i hi).1)
    have hcell : ∀ i j u, i < len → (ints (f i))[j]? = some u → w.cell? (a.add (i * sz + j)) = some u := by
      intro i j u hi hu
      obtain ⟨_, _, hc⟩ := World.cells?_some (hf i hi).2.1
      rw [← hu, ← add_of_add]
      exact hc j (by have := (List.getElem?_eq_some_iff.1 hu).1; omega)
    refine ⟨_, len, (List.range len).flatMap f, rfl, hfl, ⟨some a, cap, rfl, hl, by unfold maxLen at hm; omega, by rw [ints_len, hfl], fun hn => ⟨a, rfl, ?_, fun j u hu => ?_⟩⟩, ?_⟩
    · have hq : 0 < (ints (f 0)).length := by rw [ints_len, (hf 0 hn).1]; exact h0
      have := hcell 0 0 _ hn (List.getElem?_eq_getElem hq)
      have h2 := World.block_lt_of_cell? w _ this
      rwa [block_of_add] at h2
    · have hj : j < len * sz := by have := (List.getElem?_eq_some_iff.1 hu).1; rw [ints_len, hfl] at this; exact this
      have hi : j / sz < len := Nat.div_lt_of_lt_mul (by rwa [Nat.mul_comm])
      have hr : j % sz < sz := Nat.mod_lt _ h0
      have e : j / sz * sz + j % sz = j := by rw [Nat.mul_comm]; exact Nat.div_add_mod _ _
      have h3 := hfa (j / sz) (j % sz) hi hr
      rw [e] at h3
      have h4 : (ints (f (j / sz)))[j % sz]? = some u := by
        rw [← hu]
        unfold ints
        rw [List.getElem?_map, List.getElem?_map, h3]
      have := hcell (j / sz) (j % sz) u hi h4
      rwa [e] at this
    · intro z hz
      obtain ⟨i, hi, hzi⟩ := List.mem_flatMap.1 hz
      exact (hf i (List.mem_range.1 hi)).2.2 z hzi
end
section
variable {H : Type} {enc : TypeId × Value → H} {w : World} {base : Nat} {spare : Nat → Bool} {held : Bool}
set_option maxRecDepth 20000 in
theorem open_blocks_v {b0 : Nat} {r : Reach} {v : Value} {d : DataW H} {p : List MemPlace} (hv : Value.okWide Tryd.prog w r b0 35 v) (h : DataW.Trod enc Tryd.prog w base spare held 35 v d p) :
    ∃ zs : List Int, SL w 64 v (zs.length / 64) (ints zs) ∧ zs.length = zs.length / 64 * 64 ∧ ∀ z ∈ zs, inI64 z := by
  obtain ⟨fuel, hf⟩ := h
  obtain ⟨u, n, zs, hcs, hl, hs, hz⟩ := open_multi (sz := 64) Tryd.underlying35 cells64 (by decide) (fun fuel cs x hx => trod_ints_arr Tryd.underlying43 Tryd.underlying3 cellsInt cells64 hx) hf
  have : v = u := slice_value Tryd.underlying35 hv hcs (by obtain ⟨A, c, rfl, -⟩ := hs; simp)
  subst this
  refine ⟨zs, ?_, by omega, hz⟩
  rwa [show zs.length / 64 = n by omega]
end
end Go.Proofs.YtgmddhljgfbibaaDoor
/- Fields of bits (width, value): flat lists, what they answer; bits.isWidth. -/
namespace Go.Proofs.YtgmddhljgfbibaaDoor
set_option linter.unusedVariables false
set_option linter.unusedSimpArgs false
open Go.RowKit
def flatF (F : List (Int × Int)) : List Int := F.flatMap fun f => [f.1, f.2]
theorem unflatF : ∀ (n : Nat) (zs : List Int), zs.length = n * 2 → ∃ F : List (Int × Int), F.length = n ∧ zs = flatF F
  | 0, zs, h => ⟨[], rfl, by simpa [flatF] using h⟩
  | n + 1, [], h => by simp at h
  | n + 1, [a], h => by simp at h; omega
  | n + 1, a :: b :: r, h => by
    obtain ⟨F, h1, rfl⟩ := unflatF n r (by simp at h; omega)
    exact ⟨(a, b) :: F, by simp [h1], by simp [flatF]⟩
theorem flatF_part : ∀ (F : List (Int × Int)) (k : Nat) (h : k < F.length), ((ints (flatF F)).drop (k * 2)).take 2 = ints [F[k].1, F[k].2]
  | f :: F, 0, _ => by simp [flatF, ints]
  | f :: F, k + 1, h => by
    have := flatF_part F k (by simpa using h)
    rw [show (k + 1) * 2 = k * 2 + 1 + 1 by omega]
    simpa [flatF, ints] using this
  | [], k, h => by simp at h
theorem flatF_mem {F : List (Int × Int)} {f : Int × Int} (h : f ∈ F) : f.1 ∈ flatF F ∧ f.2 ∈ flatF F := by
  constructor <;> exact List.mem_flatMap.2 ⟨f, h, by simp⟩
def okF (f : Int × Int) : Bool := inB f.1 0 24 && inB f.2 0 (2 ^ f.1.toNat - 1)
def bitsF (F : List (Int × Int)) : List Bool := F.flatMap fun f => digs f.2.toNat f.1.toNat
theorem bitsF_succ (F : List (Int × Int)) (k : Nat) (h : k < F.length) : bitsF (F.take (k + 1)) = bitsF (F.take k) ++ digs F[k].2.toNat F[k].1.toNat := by
  unfold bitsF
  rw [List.take_succ_eq_append_getElem h, List.flatMap_append]
  simp
theorem bitsF_len (F : List (Int × Int)) (h : ∀ f ∈ F, okF f = true) : (bitsF F).length ≤ 24 * F.length := by
  induction F with
  | nil => simp [bitsF]
  | cons f l ih =>
    have h1 := ih (fun g hg => h g (by simp [hg]))
    have h2 := h f (by simp)
    unfold okF at h2
    rw [Bool.and_eq_true, inB_iff] at h2
    simp only [bitsF, List.flatMap_cons, List.length_append, List.length_cons, digs_len] at h1 ⊢
    omega
/-- what Write answers -/
def bwZ (F : List (Int × Int)) : List Nat × Int := if F.length ≤ 20000 then (if F.all okF then (packB (padB (bitsF F)), 0) else ([], 1)) else ([], 2)
theorem bwZ_long {F : List (Int × Int)} (h : ¬ F.length ≤ 20000) : bwZ F = ([], 2) := by unfold bwZ; rw [if_neg h]
theorem bwZ_bad {F : List (Int × Int)} (h : F.length ≤ 20000) {k : Nat} (hk : k < F.length) (hb : okF F[k] = false) : bwZ F = ([], 1) := by
  have : F.all okF = false := by
    rw [← Bool.not_eq_true]
    intro h2
    have := List.all_eq_true.1 h2 _ (List.getElem_mem hk)
    rw [hb] at this
    cases this
  unfold bwZ
  rw [if_pos h, this]; rfl
theorem bwZ_good {F : List (Int × Int)} (h : F.length ≤ 20000) (hb : ∀ f ∈ F, okF f = true) : bwZ F = (packB (padB (bitsF F)), 0) := by
  unfold bwZ
  rw [if_pos h, List.all_eq_true.2 hb]; rfl
theorem okF_w {a b : Int} (h : inB a 0 24 = false) : okF (a, b) = false := by simp [okF, h]
theorem okF_v {a b : Int} (h : inB b 0 (2 ^ a.toNat - 1) = false) : okF (a, b) = false := by simp [okF, h]
theorem okF_y {a b : Int} (h1 : inB a 0 24 = true) (h2 : inB b 0 (2 ^ a.toNat - 1) = true) : okF (a, b) = true := by simp [okF, h1, h2]
theorem run_shl1 (a : Nat) (h : a ≤ 24) (W : World) : (binOp .shl 3 (.int .i64 1) (.int .i64 (a : Int))).run Tryd.prog W = .ok (.int .i64 (2 ^ a)) W := by
  have h1 : (2 : Int) ^ a ≤ 2 ^ 24 := by have := Nat.pow_le_pow_right (n := 2) (by omega) h; exact_mod_cast this
  have h2 : (0 : Int) ≤ 2 ^ a := by exact_mod_cast Nat.zero_le (2 ^ a)
  have h3 : (2 : Int) ^ 24 = 16777216 := by decide
  rw [h3] at h1
  have e : IntKind.i64.wrap (2 ^ a) = 2 ^ a := IntWalk.i64_in _ (by omega)
  have e2 : ¬ ((a : Int) < 0) := by omega
  simp [binOp, e, e2]
end Go.Proofs.YtgmddhljgfbibaaDoor
/- Slices that are owned, out of words. -/
namespace Go.Proofs.YtgmddhljgfbibaaDoor
set_option linter.unusedVariables false
set_option linter.unusedSimpArgs false
open Go.RowKit
/-- an owned row, its value written out -/
def OwnV (w : World) (base : Nat) (e : TypeId) (size : Nat) (v : Value) (n : Nat) (xs : List Value) : Prop := ∃ A c, v = .slice A n c ∧ w.ownsRow base e size (.slice A n c) n xs
theorem OwnV.mk {w : World} {base : Nat} {e : TypeId} {size n : Nat} {v : Value} {xs : List Value} (h : w.ownsRow base e size v n xs) : OwnV w base e size v n xs := by
  obtain ⟨A, c, rfl, -, -⟩ := own_form h
  exact ⟨A, c, rfl, h⟩
theorem OwnV.nil (w : World) (base : Nat) (e : TypeId) (size : Nat) : OwnV w base e size (.slice none 0 0) 0 [] := ⟨none, 0, rfl, World.ownsRow_nil _ _ _ _⟩
theorem own_out {w : World} {base : Nat} {e : TypeId} {size n c : Nat} {A : Option Addr} {xs : List Value} (h : w.ownsRow base e size (.slice A n c) n xs) : SL w size (.slice A n c) n xs ∧ ∀ ad, A = some ad → base ≤ ad.block := by
  obtain ⟨B, d, e1, h1, h2⟩ := own_form h
  injection e1 with e1 e2 e3
  subst e1 e3
  exact ⟨h1, h2⟩
theorem own_ext0 {w w' : World} {base : Nat} {e : TypeId} {size n : Nat} {v : Value} {xs : List Value} (h : w.ownsRow base e size v n xs) (hb : Ext w w') : w'.ownsRow base e size v n xs := by
  obtain ⟨hl, hh⟩ := h
  refine ⟨hl, ?_⟩
  rcases hh with ⟨rfl, rfl⟩ | ⟨g, cap, cur, rfl, h1, hg, h2⟩
  · exact .inl ⟨rfl, rfl⟩
  · exact .inr ⟨g, cap, cur, rfl, h1, (hb.block g (Blk.lt (w := w) (t := e) (cs := cur) hg)).trans hg, h2⟩
end Go.Proofs.YtgmddhljgfbibaaDoor
/- bits.Read. -/
namespace Go.Proofs.YtgmddhljgfbibaaDoor
set_option linter.unusedVariables false
set_option linter.unusedSimpArgs false
open Go.RowKit
theorem elt_intR : Elt Tryd.prog 30 3 1 8 := ⟨Tryd.underlying30, by kernel_rfl, by omega⟩
/-- what Read hands back -/
def RdIs (z : List Int × Int × Int) (w : World) (e : Ending) (w' : World) : Prop :=
  ∃ A c, e = .returned (.tuple #[.slice A z.1.length c, .int .i64 z.2.1, .int .i64 z.2.2]) ∧ SL w' 1 (.slice A z.1.length c) z.1.length (ints z.1) ∧ Ext w w'
theorem RdIs.err {w w' : World} {x y : Int} {z : List Int × Int × Int} (h : z = ([], x, y)) (hx : Ext w w') : RdIs z w (.returned (.tuple #[.slice none 0 0, .int .i64 x, .int .i64 y])) w' := by
  subst h
  exact ⟨none, 0, rfl, SL.nil _ _, hx⟩
end Go.Proofs.YtgmddhljgfbibaaDoor
/- Split of the reference. -/
namespace Go.Proofs.YtgmddhljgfbibaaDoor
set_option linter.unusedVariables false
set_option linter.unusedSimpArgs false
open Go.RowKit
theorem bytesV_sub (bs : List Nat) (i k : Nat) : bytesV ((bs.drop i).take k) = ((bytesV bs).drop i).take k := by simp [bytesV]
theorem elt_bss : Elt Tryd.prog 47 22 1 24 := ⟨Tryd.underlying47, by kernel_rfl, by omega⟩
theorem sizeBs : (Tryd.prog.info? 22).map (·.size) = some 1 := by kernel_rfl
theorem zeroBs : ((Tryd.prog.info? 22).bind (·.zero)).isSome = true := by kernel_rfl
theorem zeroI : ((Tryd.prog.info? 3).bind (·.zero)).isSome = true := by kernel_rfl
/-- what Split hands back -/
def SpIs (z : Option (List (List Nat) × List Nat)) (w : World) (e : Ending) (w' : World) : Prop :=
  match z with
  | none => e = .returned (.tuple #[.slice none 0 0, .slice none 0 0, .int .i64 4]) ∧ Ext w w'
  | some (P, M) => ∃ A c B d VS, e = .returned (.tuple #[.slice A P.length c, .slice B M.length d, .int .i64 0]) ∧ SL w' 1 (.slice A P.length c) P.length VS ∧ Pieces w' VS P ∧ SL w' 1 (.slice B M.length d) M.length (ints (M.map Int.ofNat)) ∧ Ext w w'
end Go.Proofs.YtgmddhljgfbibaaDoor
/- The element of a slice of bytes. -/
namespace Go.Proofs.YtgmddhljgfbibaaDoor
set_option linter.unusedVariables false
set_option linter.unusedSimpArgs false
open Go.RowKit
theorem elt_by : Elt Tryd.prog 22 5 1 1 := ⟨Tryd.underlying22, by kernel_rfl, by omega⟩
end Go.Proofs.YtgmddhljgfbibaaDoor
