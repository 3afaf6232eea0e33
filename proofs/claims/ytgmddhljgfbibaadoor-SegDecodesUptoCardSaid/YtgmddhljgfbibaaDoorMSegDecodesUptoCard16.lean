/- Contracts for the law SegDecodesUptoCard, part 16: what the functions that it reaches answer, for all arguments that the theorems name. -/
import Derived.Deep.Slices
import Derived.Test.YtgmddhljgfbibaaDoorMSegDecodesUptoCard3
import Derived.Test.YtgmddhljgfbibaaDoorMSegDecodesUptoCard12
import Derived.Test.YtgmddhljgfbibaaDoorMSegDecodesUptoCard14
import Derived.Test.YtgmddhljgfbibaaDoorMSegDecodesUptoCard15
import Derived.Test.YtgmddhljgfbibaaDoorMSegDecodesUptoCard10
import Derived.Lib.Bytealg
import Derived.Test.YtgmddhljgfbibaaDoorMSegDecodesUptoCard6
/- Opening a parameter that is a slice of elements of several integers each (blocks, tokens, fields). -/
namespace Go.Proofs.YtgmddhljgfbibaaDoor
set_option linter.unusedVariables false
set_option linter.unusedSimpArgs false
open Go.RowKit Go.ChangeShapes Go.WideShapes Go.ChangeAt
theorem flat_at {α : Type} (f : Nat → List α) (sz : Nat) : ∀ n : Nat, (∀ i, i < n → (f i).length = sz) → ((List.range n).flatMap f).length = n * sz ∧ ∀ i j, i < n → j < sz → ((List.range n).flatMap f)[i * sz + j]? = (f i)[j]?
  | 0, _ => ⟨by simp, fun i j h => by omega⟩
  | n + 1, h => by
    obtain ⟨h1, h2⟩ := flat_at f sz n (fun i hi => h i (by omega))
    have hl := h n (by omega)
    rw [List.range_succ, List.flatMap_append]
    refine ⟨by simp only [List.length_append, h1, List.flatMap_cons, List.flatMap_nil, List.append_nil, hl]; rw [Nat.add_mul]; omega, fun i j hi hj => ?_⟩
    rcases Nat.lt_or_ge i n with hlt | hge
    · have : i * sz + j < n * sz := by
        have := Nat.mul_le_mul_right sz (show i + 1 ≤ n by omega)
        rw [Nat.add_mul] at this
        omega
      rw [List.getElem?_append_left (by omega)]
      exact h2 i j hlt hj
    · obtain rfl : i = n := by omega
      rw [List.getElem?_append_right (by omega), h1, show i * sz + j - i * sz = j by omega]
      simp
section
variable {H : Type} {enc : TypeId × Value → H} {P : Program} {w : World} {base : Nat} {spare : Nat → Bool} {held : Bool}
theorem open_multi {t e : TypeId} {sz fuel : Nat} {cs : List Value} {x : DataW H × List MemPlace} (ht : P.underlying t = some (.slice e)) (hsz : P.cellsOf e = sz) (h0 : 0 < sz)
    (hel : ∀ (fuel : Nat) (cs : List Value) (x : DataW H × List MemPlace), DataW.trod enc P w base spare held fuel e cs = some x → ∃ zs : List Int, zs.length = sz ∧ cs = ints zs ∧ ∀ z ∈ zs, inI64 z)
    (h : DataW.trod enc P w base spare held fuel t cs = some x) : ∃ (v : Value) (n : Nat) (zs : List Int), cs = [v] ∧ zs.length = n * sz ∧ SL w sz v n (ints zs) ∧ ∀ z ∈ zs, inI64 z := by
  rcases Go.Deep.open_slice ht h with ⟨rfl, -⟩ | ⟨a, len, cap, m, n, D, Pl, rfl, -, hl, hm, hmm, -, hx⟩
  · exact ⟨_, 0, [], rfl, by simp, SL.nil w sz, by simp⟩
  · rw [hsz] at hx
    have hle : len ≤ m := by rw [hmm]; split <;> omega
    obtain ⟨f, hf⟩ := Go.Deep.choose_lt (α := List Int) (n := len) (p := fun i zs => zs.length = sz ∧ w.cells? base (a.add (i * sz)) sz = some (ints zs) ∧ ∀ z ∈ zs, inI64 z) (fun i hi => by
      obtain ⟨cs', h1, h2⟩ := hx i (by omega)
      obtain ⟨zs, hz1, rfl, hz3⟩ := hel _ _ _ h2
      exact ⟨zs, hz1, h1, hz3⟩)
    obtain ⟨hfl, hfa⟩ := flat_at f sz len (fun i hi => (hf i hi).1)
    have hcell : ∀ i j u, i < len → (ints (f i))[j]? = some u → w.cell? (a.add (i * sz + j)) = some u := by
      intro i j u hi hu
      obtain ⟨_, _, hc⟩ := World.cells?_some (hf i hi).2.1
      rw [← hu, ← add_of_add]
      exact hc j (by have := (List.getElem?_eq_some_iff.1 hu).1; omega)
    refine ⟨_, len, (List.range len).flatMap f, rfl, hfl, ⟨some a, cap, rfl, hl, by unfold maxLen at hm; omega, by rw [ints_len, hfl], fun hn => ⟨a, rfl, ?_, fun j u hu => ?_⟩⟩, ?_⟩
    · have hq : 0 < (ints (f 0)).length := by rw [ints_len, (hf 0 hn).1]; exact h0
      have := hcell 0 0 _ hn (List.getElem?_eq_getElem hq)
      have h2 := World.block_lt_of_cell? w _ this
      rwa [block_of_add] at h2
    · have hj : j < len * sz := by have := (List.getElem?_eq_some_iff.1 hu).1; rw [ints_len, hfl] at this; exact this
      have hi : j / sz < len := Nat.div_lt_of_lt_mul (by rwa [Nat.mul_comm])
      have hr : j % sz < sz := Nat.mod_lt _ h0
      have e : j / sz * sz + j % sz = j := by rw [Nat.mul_comm]; exact Nat.div_add_mod _ _
      have h3 := hfa (j / sz) (j % sz) hi hr
      rw [e] at h3
      have h4 : (ints (f (j / sz)))[j % sz]? = some u := by
        rw [← hu]
        unfold ints
        rw [List.getElem?_map, List.getElem?_map, h3]
      have := hcell (j / sz) (j % sz) u hi h4
      rwa [e] at this
    · intro z hz
      obtain ⟨i, hi, hzi⟩ := List.mem_flatMap.1 hz
      exact (hf i (List.mem_range.1 hi)).2.2 z hzi
end
section
variable {H : Type} {enc : TypeId × Value → H} {w : World} {base : Nat} {spare : Nat → Bool} {held : Bool}
set_option maxRecDepth 20000 in
theorem open_blocks_v {b0 : Nat} {r : Reach} {v : Value} {d : DataW H} {p : List MemPlace} (hv : Value.okWide Tryd.prog w r b0 35 v) (h : DataW.Trod enc Tryd.prog w base spare held 35 v d p) :
    ∃ zs : List Int, SL w 64 v (zs.length / 64) (ints zs) ∧ zs.length = zs.length / 64 * 64 ∧ ∀ z ∈ zs, inI64 z := by
  obtain ⟨fuel, hf⟩ := h
  obtain ⟨u, n, zs, hcs, hl, hs, hz⟩ := open_multi (sz := 64) Tryd.underlying35 cells64 (by decide) (fun fuel cs x hx => trod_ints_arr Tryd.underlying43 Tryd.underlying3 cellsInt cells64 hx) hf
  have : v = u := slice_value Tryd.underlying35 hv hcs (by obtain ⟨A, c, rfl, -⟩ := hs; simp)
  subst this
  refine ⟨zs, ?_, by omega, hz⟩
  rwa [show zs.length / 64 = n by omega]
end
end Go.Proofs.YtgmddhljgfbibaaDoor
/- A list of tokens as a source: list.Token, the closure of RunBlock. -/
namespace Go.Proofs.YtgmddhljgfbibaaDoor
set_option linter.unusedVariables false
set_option linter.unusedSimpArgs false
open Go.RowKit
theorem SL.rest {w : World} {A : Option Addr} {n c sz : Nat} {xs : List Value} (hs : SL w sz (.slice A n c) n xs) (h1 : 1 ≤ n) :
    SL w sz (.slice (if c = 1 then A else A.map (·.add sz)) (n - 1) (c - 1)) (n - 1) (xs.drop sz) := by
  obtain ⟨A', c', e, h1, h2, h3, h4⟩ := hs
  injection e with e1 e2 e3
  subst e1 e3
  refine ⟨_, _, rfl, by omega, by omega, by rw [List.length_drop, h3, Nat.sub_mul]; omega, fun h0 => ?_⟩
  obtain ⟨ad, rfl, hb, hc⟩ := h4 (by omega)
  rw [if_neg (by omega)]
  refine ⟨ad.add sz, rfl, by rw [block_of_add]; exact hb, fun j u hu => ?_⟩
  rw [add_of_add]
  refine hc _ _ ?_
  rwa [List.getElem?_drop] at hu
theorem SL.updp {S : Nat → Prop} {w w' : World} {size n c : Nat} {A : Option Addr} {xs : List Value} (h : SL w size (.slice A n c) n xs) (hu : Upd S w w') (hS : ∀ ad, A = some ad → 0 < n → ¬ S ad.block) : SL w' size (.slice A n c) n xs := by
  obtain ⟨A', c', e, h1, h2, h3, h4⟩ := h
  injection e with e1 e2 e3
  subst e1 e3
  refine ⟨_, _, rfl, h1, h2, h3, fun h0 => ?_⟩
  obtain ⟨ad, rfl, hb, hc⟩ := h4 h0
  refine ⟨ad, rfl, Nat.lt_of_lt_of_le hb hu.size, fun j u hj => ?_⟩
  rw [← hc j u hj]
  unfold World.cell?
  rw [block_of_add, hu.block _ hb (hS ad rfl h0)]
theorem run_slice1 (A : Option Addr) (n c : Nat) (hn : 1 ≤ n) (hc : n ≤ c) (w : World) :
    (Instr.slice 72 (.slice A n c) (some (.int .i64 1)) none none).run Tryd.prog w = .ok (.slice (if c = 1 then A else A.map (·.add 3)) (n - 1) (c - 1)) w := by
  have e1 : ((1 : Int) ≤ (n : Int)) := by omega
  have e2 : ((n : Int) ≤ (c : Int)) := by omega
  have e3 : 1 ≤ c := by omega
  go_simp
theorem ex_slice1 {o : Oper} {a : Act} {x : Operand} (ho : o.op = .slice 72 x (some (.const (.int .i64 1))) none none) {A : Option Addr} {n c : Nat} (hx : a.eval x = .slice A n c) (hn : 1 ≤ n) (hc : n ≤ c) (w : World) :
    (execOp a.eval o).run Tryd.prog w = .ok (.value (.slice (if c = 1 then A else A.map (·.add 3)) (n - 1) (c - 1))) w := by
  have e : a.eval (.const (.int .i64 1)) = .int .i64 1 := rfl
  simp [execOp, ho, hx, e, Instr.sliceAt, Sem.run_bind, run_underlying Tryd.underlying72, run_slice1 A n c hn hc w]
/-- the next token of a list -/
def listNext (_ : Bool) : List Tok → Tok × Int × List Tok
  | [] => ((0, 0, 0), 3, [])
  | t :: r => (t, 0, r)
/-- block g holds a slice of these tokens -/
def ListIn (T : TypeId) (g B : Nat) (W : World) (L : List Tok) : Prop :=
  (∃ A n c, Blk W g T #[.slice A n c] ∧ SL W 3 (.slice A n c) n (toks L) ∧ L.length = n ∧ n ≤ c ∧ (∀ ad, A = some ad → 0 < n → ad.block < B ∧ ad.block ≠ g)) ∧ g < B ∧ ∀ t ∈ L, I64 t.1 ∧ I64 t.2.1 ∧ I64 t.2.2
theorem ListIn.keep {T : TypeId} {g B : Nat} {W W' : World} {L : List Tok} (h : ListIn T g B W L) (hu : Upd (fun b => B ≤ b) W W') : ListIn T g B W' L := by
  obtain ⟨⟨A, n, c, h1, h2, h3, h4, h5⟩, h6, h7⟩ := h
  exact ⟨⟨A, n, c, hu.blk h1 (by omega), h2.updp hu (fun ad e h0 k => by have := (h5 ad e h0).1; omega), h3, h4, h5⟩, h6, h7⟩
theorem ListIn.next {T : TypeId} {g B : Nat} {W W' : World} {t : Tok} {r : List Tok} {A : Option Addr} {n c : Nat} (h2 : SL W 3 (.slice A n c) n (toks (t :: r))) (h3 : (t :: r).length = n) (h4 : n ≤ c)
    (h5 : ∀ ad, A = some ad → 0 < n → ad.block < B ∧ ad.block ≠ g) (h6 : g < B) (h7 : ∀ x ∈ t :: r, I64 x.1 ∧ I64 x.2.1 ∧ I64 x.2.2) (hu : Upd (fun b => b = g) W W') (hb : Blk W' g T #[.slice (if c = 1 then A else A.map (·.add 3)) (n - 1) (c - 1)]) : ListIn T g B W' r := by
  have hs := h2.rest (by simp at h3; omega)
  rw [show (toks (t :: r)).drop 3 = toks r by simp [toks, tokv]] at hs
  refine ⟨⟨_, _, _, hb, hs.updp hu (fun ad e h0 k => ?_), by simp at h3; omega, by omega, fun ad e h0 => ?_⟩, h6, fun x hx => h7 x (by simp [hx])⟩
  · split at e
    · exact (h5 ad e (by omega)).2 k
    · obtain ⟨a0, e0, e1⟩ := Option.map_eq_some_iff.1 e
      subst e1
      rw [block_of_add] at k
      exact (h5 a0 e0 (by omega)).2 k
  · split at e
    · exact h5 ad e (by omega)
    · obtain ⟨a0, e0, e1⟩ := Option.map_eq_some_iff.1 e
      subst e1
      rw [block_of_add]
      exact h5 a0 e0 (by omega)
end Go.Proofs.YtgmddhljgfbibaaDoor
/- run.From over any source, all ways; run.Block and RunBlock of the reference. -/
namespace Go.Proofs.YtgmddhljgfbibaaDoor
set_option linter.unusedVariables false
set_option linter.unusedSimpArgs false
open Go.RowKit
section
variable {σ : Type} {f : FuncId} {B : Nat} {S : Nat → Prop} {Inv : World → σ → Prop} {next : Bool → σ → Tok × Int × σ}
theorem from_any (before : Int) (hb1 : -2047 ≤ before) (hb2 : before ≤ 2047) {ty : TypeId} {v recv : Value} (hm : Meth Tryd.prog ty v "Token" f recv) (C : Src f #[recv] #[] B S Inv next) (w : World) (s : σ) (hI : Inv w s) (hB : B = w.heap.size) :
    Calls Tryd.prog 38 #[.int .i64 before, .iface ty v] w (FromIs S Inv w (blkZ next before s)) := by
  rcases hq : next true s with ⟨t, x, s'⟩
  by_cases hx : x = 0
  · subst hx
    cases hok : tokOk1 before t with
    | false => rw [blkZ_bad hq hok]; exact from_bad before hb1 hb2 hm C w s hI hB hq hok
    | true => exact from_go before hb1 hb2 hm C w s hI hB hq hok
  · rw [blkZ_err hq hx]; exact from_err before hm C w s hI hB hq hx
end
attribute [local irreducible] zfrom tokensZ accT backR
theorem goB_len {σ : Type} (next : σ → Tok × Int × σ) : ∀ (n i : Nat) (z : List Int) (all : List Tok) (s : σ), 64 - i = n → i ≤ 64 → z.length = 64 → all.length ≤ i → (goB next i z all s).2.1.length = 64 ∧ (goB next i z all s).2.2.1.length ≤ 64 := by
  intro n
  induction n using Nat.strongRecOn with
  | ind n ih =>
    intro i z all s hn hi hz hl
    by_cases hlt : i < 64
    · rcases hq : next s with ⟨t, e, s'⟩
      by_cases he : e = 0
      · subst he
        cases ht : tokOk t with
        | false => rw [goB_bad hlt hq ht]; exact ⟨hz, by dsimp only; omega⟩
        | true =>
          by_cases h1 : t.1 = 0
          · rw [goB_end hlt hq ht h1]; exact ⟨hz, by dsimp only; simp; omega⟩
          · by_cases hf : 64 < i + (t.1 / 16).toNat + 1
            · rw [goB_far hlt hq ht h1 hf]; exact ⟨hz, by dsimp only; omega⟩
            · rw [goB_step hlt hq ht h1 hf]
              exact ih _ (by omega) _ _ _ _ rfl (by omega) (by simpa using hz) (by simp; omega)
      · rw [goB_err hlt hq he]; exact ⟨hz, by dsimp only; omega⟩
    · rw [goB_done hlt]; exact ⟨hz, by dsimp only; omega⟩
theorem blkZ_len {σ : Type} (next : Bool → σ → Tok × Int × σ) (before : Int) (s : σ) : (blkZ next before s).2.1.length = 64 ∧ (blkZ next before s).2.2.1.length ≤ 64 := by
  rcases hq : next true s with ⟨t, x, s'⟩
  by_cases hx : x = 0
  · subst hx
    cases hok : tokOk1 before t with
    | false => rw [blkZ_bad hq hok]; exact ⟨by simp, by simp⟩
    | true =>
      rw [blkZ_fin hq hok]
      have h := goB_len (next false) 63 1 ((List.replicate 64 0).set 0 (before + (backR t.2.1 t.2.2).1)) [t] s' (by omega) (by omega) (by simp) (by simp)
      generalize goB (next false) 1 ((List.replicate 64 0).set 0 (before + (backR t.2.1 t.2.2).1)) [t] s' = g at *
      obtain ⟨e, z, all, q⟩ := g
      dsimp only at h
      by_cases he : e = 0
      · subst he
        by_cases ht : tokensZ before z = all
        · rw [finZ_good ht]; exact ⟨zfrom_len _ _, h.2⟩
        · rw [finZ_ne ht]; exact ⟨by simp, by simp⟩
      · rw [finZ_err he]; exact ⟨by simp, by simp⟩
  · rw [blkZ_err hq hx]; exact ⟨by simp, by simp⟩
end Go.Proofs.YtgmddhljgfbibaaDoor
/- Blocks out of digits, in plain words. -/
namespace Go.Proofs.YtgmddhljgfbibaaDoor
set_option linter.unusedVariables false
set_option linter.unusedSimpArgs false
open Go.RowKit
/-- m blocks more from place p on; flat -/
def segGo (next : Bool → Nat → Tok × Int × Nat) : Nat → Int → Nat → List Int → Int × List Int × Nat
  | 0, _, p, acc => (0, acc, p)
  | m + 1, before, p, acc => if (blkZ next before p).1 ≠ 0 then ((blkZ next before p).1, [], p) else segGo next m ((blkZ next before p).2.1.getD 0 0) (blkZ next before p).2.2.2 (acc ++ (blkZ next before p).2.1)
theorem segGo_err {next : Bool → Nat → Tok × Int × Nat} {m : Nat} {before : Int} {p : Nat} {acc : List Int} (h : (blkZ next before p).1 ≠ 0) : segGo next (m + 1) before p acc = ((blkZ next before p).1, [], p) := by rw [segGo, if_pos h]
theorem segGo_ok {next : Bool → Nat → Tok × Int × Nat} {m : Nat} {before : Int} {p : Nat} {acc : List Int} (h : (blkZ next before p).1 = 0) : segGo next (m + 1) before p acc = segGo next m ((blkZ next before p).2.1.getD 0 0) (blkZ next before p).2.2.2 (acc ++ (blkZ next before p).2.1) := by rw [segGo, if_neg (by simp [h])]
theorem segGo_same {n1 n2 : Bool → Nat → Tok × Int × Nat} (hs : ∀ b, SameN (n1 b) (n2 b)) : ∀ (m : Nat) (before : Int) (p : Nat) (acc : List Int), segGo n1 m before p acc = segGo n2 m before p acc
  | 0, _, _, _ => rfl
  | m + 1, before, p, acc => by
    obtain ⟨h1, h2, h3, h4⟩ := blkZ_same hs before p
    by_cases he : (blkZ n1 before p).1 = 0
    · rw [segGo_ok he, segGo_ok (by rw [← h1]; exact he), segGo_same hs m, h2, h4 he]
    · rw [segGo_err he, segGo_err (by rw [← h1]; exact he), h1]
theorem segGo_len {next : Bool → Nat → Tok × Int × Nat} : ∀ (m : Nat) (before : Int) (p : Nat) (acc : List Int) (k : Nat), acc.length = k * 64 → (segGo next m before p acc).1 = 0 → (segGo next m before p acc).2.1.length = (k + m) * 64
  | 0, _, _, acc, k, h, _ => by rw [segGo]; simpa using h
  | m + 1, before, p, acc, k, h, h0 => by
    by_cases he : (blkZ next before p).1 = 0
    · rw [segGo_ok he] at h0 ⊢
      have := segGo_len m _ _ (acc ++ (blkZ next before p).2.1) (k + 1) (by rw [List.length_append, h, (blkZ_len next before p).1]; omega) h0
      rw [this]
      congr 1
      omega
    · rw [segGo_err he] at h0
      exact absurd h0 he
/-- what is left must be less than a byte, and ones -/
def segFin (D : List Bool) (r : Int × List Int × Nat) : Int × List Int := if r.1 ≠ 0 then (r.1, []) else if 7 < D.length - r.2.2 ∨ false ∈ D.drop r.2.2 then (4, []) else (0, r.2.1)
theorem ones_iff (L : List Bool) : numB L = 2 ^ L.length - 1 ↔ ¬ false ∈ L := by
  rw [← numB_ones]
  constructor
  · intro h hm
    have e : L = List.replicate L.length true := numB_inj (by simp) h
    rw [e] at hm
    have := (List.mem_replicate.1 hm).2
    cases this
  · intro h
    have e : L = List.replicate L.length true := by
      refine List.eq_replicate_iff.2 ⟨rfl, fun b hb => ?_⟩
      cases b with
      | true => rfl
      | false => exact absurd hb h
    rw [← e]
theorem zero_iff : ∀ (L : List Bool), 0 ≤ Lib.indexByte (L.map chB) 48 ↔ false ∈ L
  | [] => by simp [Lib.indexByte]
  | b :: l => by
    have ih := zero_iff l
    have hge := Lib.indexByte_ge (l.map chB) 48
    rw [List.map_cons, Lib.indexByte]
    cases b with
    | false => simp [chB]
    | true =>
      rw [if_neg (by simp [chB])]
      by_cases h : Lib.indexByte (l.map chB) 48 = -1
      · rw [if_pos (by simpa using h)]
        rw [h] at ih
        simp only [List.mem_cons, Bool.false_eq_true, false_or]
        rw [← ih]
      · rw [if_neg (by simpa using h)]
        simp only [List.mem_cons, Bool.false_eq_true, false_or]
        rw [← ih]
        omega
/-- what Decode answers for good tables -/
def decR (r : Bool) (T1 T2 : List Tok) (nn : Int) (bs : Option (List Nat)) : Int × List Int :=
  if nn < 0 ∨ 400 < nn then (1, []) else match bs with
    | none => (4, [])
    | some pb => segFin (digsOf pb) (segGo (segNext r T1 T2 (digsOf pb)) nn.toNat 0 0 [])
theorem decR_same (T1 T2 : List Tok) (nn : Int) (bs : Option (List Nat)) : decR true T1 T2 nn bs = decR false T1 T2 nn bs := by
  unfold decR
  cases bs with
  | none => rfl
  | some pb => dsimp only; rw [segGo_same (n1 := segNext true T1 T2 (digsOf pb)) (n2 := segNext false T1 T2 (digsOf pb)) (fun b s => segNext_same T1 T2 (digsOf pb) b s)]
/-- what Decode hands back -/
def DecIs (r : Int × List Int) (w : World) (e : Ending) (w' : World) : Prop :=
  Ext w w' ∧ if r.1 = 0 then ∃ B k d, e = .returned (.tuple #[.slice B k d, .int .i64 0]) ∧ r.2.length = k * 64 ∧ SL w' 64 (.slice B k d) k (ints r.2) ∧ (B = none → d = 0)
    else e = .returned (.tuple #[.slice none 0 0, .int .i64 r.1])
theorem segNext_wf {r : Bool} {T1 T2 : List Tok} {D : List Bool} {b : Bool} {p : Nat} (hT1 : ∀ t ∈ T1, 0 ≤ t.1 ∧ t.1 ≤ 255) (hT2 : ∀ t ∈ T2, 0 ≤ t.1 ∧ t.1 ≤ 255) (h : (segNext r T1 T2 D b p).2.1 = 0) :
    I64 (segNext r T1 T2 D b p).1.1 ∧ I64 (segNext r T1 T2 D b p).1.2.1 ∧ I64 (segNext r T1 T2 D b p).1.2.2 := by
  by_cases h0 : (symZ (if b then T1 else T2) D p).2.2 ≠ 0
  · rw [segNext_sym h0] at h
    exact absurd h h0
  · obtain ⟨s, p', e⟩ : ∃ s p', symZ (if b then T1 else T2) D p = (s, p', 0) := ⟨_, _, Prod.ext rfl (Prod.ext rfl (by simpa using h0))⟩
    have hr := symZ_mem (T := if b then T1 else T2) (D := D) (p := p) (by cases b <;> assumption)
    rw [e] at hr
    dsimp only at hr
    by_cases hb : 12 < (if b then s else s % 16) ∨ (b = false ∧ 11 < (if b then s else s % 16))
    · rw [segNext_wide e rfl hb] at h; cases h
    · by_cases hl : D.length < p' + (if b then s else s % 16).toNat
      · rw [segNext_short e rfl hb hl] at h; cases h
      · rw [segNext_good e rfl hb hl]
        have h12 : (if b then s else s % 16) ≤ 12 := Int.not_lt.1 fun k => hb (.inl k)
        have h00 : 0 ≤ (if b then s else s % 16) := by cases b <;> simp <;> omega
        have hn := numB_take_lt (D.drop p') (if b then s else s % 16).toNat 12 (by omega)
        have h4 : (2 : Nat) ^ 12 = 4096 := by decide
        rw [h4] at hn
        unfold I64
        dsimp only
        refine ⟨by omega, by omega, by omega⟩
end Go.Proofs.YtgmddhljgfbibaaDoor
/- bits.Reader: Left, Get, NewReader. -/
namespace Go.Proofs.YtgmddhljgfbibaaDoor
set_option linter.unusedVariables false
set_option linter.unusedSimpArgs false
open Go.RowKit
section
variable {o : Oper} {a : Act}
theorem run_loadSl (W : World) (p : Addr) (A : Option Addr) (n c : Nat) (h : W.cell? p = some (.slice A n c)) : (Instr.loadAt 22 (.pointer (some p))).run Tryd.prog W = .ok (.slice A n c) W := by
  go_simp
theorem run_loadU (W : World) (p : Addr) (z : Int) (h : W.cell? p = some (.int .u8 z)) : (Instr.loadAt 5 (.pointer (some p))).run Tryd.prog W = .ok (.int .u8 z) W := by
  go_simp
theorem ex_loadS {x : Operand} (ho : o.op = .load 22 x) {p : Addr} (hx : a.eval x = .pointer (some p)) {A : Option Addr} {n c : Nat} {w : World} (h : w.cell? p = some (.slice A n c)) : (execOp a.eval o).run Tryd.prog w = .ok (.value (.slice A n c)) w := by
  simp [execOp, ho, hx, run_loadSl w p A n c h]
theorem ex_loadU {x : Operand} (ho : o.op = .load 5 x) {p : Addr} (hx : a.eval x = .pointer (some p)) {z : Int} {w : World} (h : w.cell? p = some (.int .u8 z)) : (execOp a.eval o).run Tryd.prog w = .ok (.value (.int .u8 z)) w := by
  simp [execOp, ho, hx, run_loadU w p z h]
theorem run_conv8 (y : Nat) (h : y < 256) (W : World) : (convert 5 3 (.int .u8 (y : Int))).run Tryd.prog W = .ok (.int .i64 (y : Int)) W := by
  have e : IntKind.i64.wrap (y : Int) = (y : Int) := IntWalk.i64_in _ (by omega)
  go_simp
theorem ex_conv {P : Program} {x : Operand} {t u : TypeId} (ho : o.op = .convert t u x) {v v' : Value} (hx : a.eval x = v) (hr : ∀ w, (convert t u v).run P w = .ok v' w) (w : World) : (execOp a.eval o).run P w = .ok (.value v') w := by
  simp [execOp, ho, hx, hr]
end
/-- a reader at bit p of the bytes bs -/
def RdS (w : World) (gr : Nat) (A : Option Addr) (n c p : Nat) (bs : List Nat) : Prop :=
  Blk w gr 131 #[.slice A n c, .int .i64 (p : Int)] ∧ SL w 1 (.slice A n c) n (bytesV bs) ∧ bs.length = n ∧ (0 < n → ∀ ad, A = some ad → ad.block < gr) ∧ (∀ b ∈ bs, b < 256) ∧ n ≤ 100000000000 ∧ p ≤ 8 * n
theorem RdS.cells {w : World} {gr : Nat} {A : Option Addr} {n c p : Nat} {bs : List Nat} (h : RdS w gr A n c p bs) : w.cell? ⟨gr, 0, none⟩ = some (.slice A n c) ∧ w.cell? ⟨gr, 1, none⟩ = some (.int .i64 (p : Int)) := by
  have h0 := h.1.cell 0
  have h1 := h.1.cell 1
  exact ⟨h0, h1⟩
theorem RdS.ext {w w' : World} {gr : Nat} {A : Option Addr} {n c p : Nat} {bs : List Nat} (h : RdS w gr A n c p bs) (hx : Ext w w') : RdS w' gr A n c p bs :=
  ⟨h.1.ext hx, h.2.1.ext hx, h.2.2⟩
theorem SL.upd0 {S : Nat → Prop} {w w' : World} {size n c : Nat} {A : Option Addr} {xs : List Value} (h : SL w size (.slice A n c) n xs) (hu : Upd S w w') (hS : 0 < n → ∀ ad, A = some ad → ¬ S ad.block) : SL w' size (.slice A n c) n xs := by
  by_cases h0 : 0 < n
  · exact h.upd hu (hS h0)
  · obtain ⟨A', c', e1, h1, h2, h3, h4⟩ := h
    exact ⟨A', c', e1, h1, h2, h3, fun hn => absurd hn h0⟩
theorem RdS.upd {S : Nat → Prop} {w w' : World} {gr : Nat} {A : Option Addr} {n c p : Nat} {bs : List Nat} (h : RdS w gr A n c p bs) (hu : Upd S w w') (hS : ∀ x, S x → gr < x) : RdS w' gr A n c p bs :=
  ⟨hu.blk h.1 (fun e => by have := hS _ e; omega), h.2.1.upd0 hu (fun h0 ad e e2 => by have := hS _ e2; have := h.2.2.2.1 h0 ad e; omega), h.2.2⟩
theorem own_upd {S : Nat → Prop} {w w' : World} {base : Nat} {e : TypeId} {size n : Nat} {v : Value} {xs : List Value} (h : w.ownsRow base e size v n xs) (hu : Upd S w w') (hS : ∀ x, S x → x < base) : w'.ownsRow base e size v n xs := by
  obtain ⟨hl, hh⟩ := h
  refine ⟨hl, ?_⟩
  rcases hh with ⟨rfl, rfl⟩ | ⟨g, cap, cur, rfl, h1, hg, h2⟩
  · exact .inl ⟨rfl, rfl⟩
  · exact .inr ⟨g, cap, cur, rfl, h1, (hu.block g (Blk.lt (w := w) (t := e) (cs := cur) hg) (fun hx => by have := hS g hx; omega)).trans hg, h2⟩
theorem RdS.drew {w : World} {gr : Nat} {A : Option Addr} {n c p : Nat} {bs : List Nat} (h : RdS w gr A n c p bs) : RdS w.drew gr A n c p bs := h
set_option maxRecDepth 20000 in
set_option maxHeartbeats 1000000 in
theorem left_any (gr : Nat) (A : Option Addr) (n c p : Nat) (bs : List Nat) (w : World) (h : RdS w gr A n c p bs) :
    Calls Tryd.prog 39 #[.pointer (some ⟨gr, 0, none⟩)] w fun e w' => e = .returned (.int .i64 ((8 * n - p : Nat) : Int)) ∧ Ext w w' := by
  have hn : n ≤ 100000000000 := h.2.2.2.2.2.1
  have hp : p ≤ 8 * n := h.2.2.2.2.2.2
  have HC0 : ∀ W, Ext w.drew W → W.cell? ⟨gr, 0, none⟩ = some (.slice A n c) := fun W hx => (h.drew.ext hx).cells.1
  have HC1 : ∀ W, Ext w.drew W → W.cell? ⟨gr, 1, none⟩ = some (.int .i64 (p : Int)) := fun W hx => (h.drew.ext hx).cells.2
  go_enter Tryd.func39, Tryd.ntmps39
  go_wp2_with fail
  refine wp_region_lx later_ext (by kernel_rfl) (by kernel_rfl) ?_
  refine lx_run (by rfl) (.pointer (some ⟨gr, 0, none⟩)) (ex_move rfl rfl) ?_
  simp only [Act.put, List.setIfInBounds_toArray, List.set_cons_succ, List.set_cons_zero]
  refine lx_run (by rfl) (.pointer (some ⟨gr, 0, none⟩)) (ex_nil rfl rfl) ?_
  simp only [Act.put, List.setIfInBounds_toArray, List.set_cons_succ, List.set_cons_zero]
  refine lx_run (by rfl) (.pointer (some ⟨gr, 0, none⟩)) (fun W => by go_simp) ?_
  simp only [Act.put, List.setIfInBounds_toArray, List.set_cons_succ, List.set_cons_zero]
  refine lx_read (by rfl) (.slice A n c) (fun W hW => ex_loadS rfl rfl (HC0 W hW)) ?_
  simp only [Act.put, List.setIfInBounds_toArray, List.set_cons_succ, List.set_cons_zero]
  refine lx_run (by rfl) (.int .i64 ((n : Nat) : Int)) (fun W => by go_simp) ?_
  simp only [Act.put, List.setIfInBounds_toArray, List.set_cons_succ, List.set_cons_zero]
  refine lx_run (by rfl) (.int .i64 ((8 * n : Nat) : Int)) (ex_mulN (i := 8) (d := n) rfl rfl rfl (by omega)) ?_
  simp only [Act.put, List.setIfInBounds_toArray, List.set_cons_succ, List.set_cons_zero]
  refine lx_run (by rfl) (.pointer (some ⟨gr, 0, none⟩)) (ex_move rfl rfl) ?_
  simp only [Act.put, List.setIfInBounds_toArray, List.set_cons_succ, List.set_cons_zero]
  refine lx_run (by rfl) (.pointer (some ⟨gr, 0, none⟩)) (ex_nil rfl rfl) ?_
  simp only [Act.put, List.setIfInBounds_toArray, List.set_cons_succ, List.set_cons_zero]
  refine lx_run (by rfl) (.pointer (some ⟨gr, 1, none⟩)) (fun W => by go_simp) ?_
  simp only [Act.put, List.setIfInBounds_toArray, List.set_cons_succ, List.set_cons_zero]
  refine lx_read (by rfl) (.int .i64 ((p : Nat) : Int)) (fun W hW => ex_loadI rfl rfl (HC1 W hW)) ?_
  simp only [Act.put, List.setIfInBounds_toArray, List.set_cons_succ, List.set_cons_zero]
  refine lx_run (by rfl) (.int .i64 (((8 * n) - p : Nat) : Int)) (ex_subN (i := 8 * n) (d := p) rfl rfl rfl (by omega) (by omega)) ?_
  simp only [Act.put, List.setIfInBounds_toArray, List.set_cons_succ, List.set_cons_zero]
  refine lx_run (by rfl) (.int .i64 (((8 * n) - p : Nat) : Int)) (ex_assign rfl rfl) ?_
  simp only [Act.put, List.setIfInBounds_toArray, List.set_cons_succ, List.set_cons_zero]
  refine lx_nil ?_
  intro w9 hx9
  go_wp2_with fail
  go_ret
  exact ⟨rfl, (Ext.refl w).drew.trans hx9⟩
theorem bytes_at {bs : List Nat} {k : Nat} {u : Value} (h : (bytesV bs)[k]? = some u) : ∃ hk : k < bs.length, u = .int .u8 ((bs[k] : Nat) : Int) := by
  unfold bytesV at h
  rw [List.getElem?_map] at h
  obtain ⟨z, hz, rfl⟩ := Option.map_eq_some_iff.1 h
  obtain ⟨hk, rfl⟩ := List.getElem?_eq_some_iff.1 hz
  exact ⟨hk, rfl⟩
set_option maxRecDepth 20000 in
set_option maxHeartbeats 1000000 in
theorem get_no (gr : Nat) (A : Option Addr) (n c p : Nat) (bs : List Nat) (width : Nat) (w : World) (h : RdS w gr A n c p bs) (hw : 8 * n < p + width) (hw2 : width ≤ 1000) :
    Calls Tryd.prog 40 #[.pointer (some ⟨gr, 0, none⟩), .int .i64 (width : Int)] w fun e w' => e = .returned (.tuple #[.int .i64 0, .bool false]) ∧ Ext w w' := by
  have hn : n ≤ 100000000000 := h.2.2.2.2.2.1
  have hp : p ≤ 8 * n := h.2.2.2.2.2.2
  have HL := hid_ (fun W h => left_any gr A n c p bs W h)
  generalize hl : 8 * n - p = l at *
  have hlw : l < width := by omega
  go_enter Tryd.func40, Tryd.ntmps40
  go_wp2_with (go_at_call 39; (with_reducible refine (HL.out _ h).mono ?_); rintro e w2 ⟨rfl, hx2⟩)
  go_ret2
  exact ⟨rfl, hx2⟩
set_option maxRecDepth 20000 in
set_option maxHeartbeats 1000000 in
theorem get_yes (gr : Nat) (A : Option Addr) (n c p : Nat) (bs : List Nat) (width : Nat) (w : World) (h : RdS w gr A n c p bs) (hw : p + width ≤ 8 * n) (hw2 : width ≤ 24) :
    Calls Tryd.prog 40 #[.pointer (some ⟨gr, 0, none⟩), .int .i64 (width : Int)] w fun e w' =>
      e = .returned (.tuple #[.int .i64 ((numB (((digsOf bs).drop p).take width) : Nat) : Int), .bool true]) ∧ RdS w' gr A n c (p + width) bs ∧ Upd (fun x => x = gr) w w' := by
  have hn : n ≤ 100000000000 := h.2.2.2.2.2.1
  have hp : p ≤ 8 * n := h.2.2.2.2.2.2
  have hbl := h.2.2.1
  have HB := hid_ h.2.2.2.2.1
  have hne := h.2.2.2.1
  have HD := hid_ (digsOf_len bs)
  have HL := hid_ (fun W h => left_any gr A n c p bs W h)
  have HNX := hid_ (fun i h1 h2 => numB_next bs p i h1 h2)
  have HLT := hid_ (fun i (h1 : i ≤ 24) => numB_take_lt ((digsOf bs).drop p) i 24 h1)
  generalize hl : 8 * n - p = l at *
  have hlw : ¬ l < width := by omega
  go_enter Tryd.func40, Tryd.ntmps40
  go_wp2_with (go_at_call 39; (with_reducible refine (HL.out _ h).mono ?_); rintro e w2 ⟨rfl, hx2⟩)
  have h2 := h.ext hx2
  go_loopw [6, 12] (fun v i wr => ∃ k : Nat, k ≤ width ∧ i = .int .i64 (k : Int) ∧ v = .int .i64 ((numB (((digsOf bs).drop p).take k) : Nat) : Int) ∧ RdS wr gr A n c (p + k) bs ∧ Upd (fun x => x = gr) w wr) (fun _ i _ => width - (intOf i).toNat)
  case atStart => exact ⟨0, by omega, rfl, by simp [numB], h2, Upd.of_ext hx2⟩
  case round =>
    obtain ⟨k, hk, rfl, rfl, hr, hu⟩ := hrel
    by_cases hlt : k < width
    · obtain ⟨q, hq⟩ : ∃ q, q = p + k := ⟨_, rfl⟩
      rw [← hq] at hr
      have hq8 : q / 8 < n := by omega
      have hqm : q % 8 < 8 := by omega
      obtain ⟨ad, u, rfl, hab, hxk, hcell⟩ := hr.2.1.at1 hq8
      obtain ⟨hkl, rfl⟩ := bytes_at hxk
      have HN2 := hid_ (HNX.out k (by have := HD.out; omega) (by rw [← hq]; exact hkl))
      have hx : bs[q / 8] < 256 := HB.out _ (List.getElem_mem hkl)
      have hm0 := HLT.out k (by omega)
      have HEQ : Hid (bs[(p + k) / 8]'(by rw [← hq]; exact hkl) = bs[q / 8]) := hid_ (by congr 2; omega)
      rw [HEQ.out, ← hq] at HN2
      clear HEQ
      generalize bs[q / 8] = x at *
      obtain ⟨s, hs⟩ : ∃ s, s = 7 - q % 8 := ⟨_, rfl⟩
      have HS : Hid (7 - q % 8 = s) := hid_ hs.symm
      have s8 : s < 8 := by omega
      rw [HS.out] at HN2
      have hy : x / 2 ^ s < 256 := by have := Nat.div_le_self x (2 ^ s); omega
      have hb : x / 2 ^ s % 2 < 256 := by omega
      have hb2 : x / 2 ^ s % 2 < 2 := by omega
      generalize hmm : numB (((digsOf bs).drop p).take k) = m at *
      have hm : m < 1099511627776 := by omega
      clear hmm hxk hs
      have HC0 : ∀ W, Ext wr.drew W → W.cell? ⟨gr, 0, none⟩ = some (.slice (some ad) n c) := fun W hx => (hr.drew.ext hx).cells.1
      have HC1 : ∀ W, Ext wr.drew W → W.cell? ⟨gr, 1, none⟩ = some (.int .i64 (q : Int)) := fun W hx => (hr.drew.ext hx).cells.2
      have HCX : ∀ W, Ext wr.drew W → W.cell? (ad.add (q / 8 * 1)) = some (.int .u8 ((x : Nat) : Int)) := fun W hxx => by
        rw [Nat.mul_one]
        exact (hxx.cell (by rw [block_of_add]; exact hab)).trans hcell
      clear hcell
      go_wp2_with fail
      refine wp_region_lx later_ext (by kernel_rfl) (by kernel_rfl) ?_
      refine lx_run (by rfl) (.int .i64 ((m : Nat) : Int)) (ex_move rfl rfl) ?_
      simp only [Act.put, List.setIfInBounds_toArray, List.set_cons_succ, List.set_cons_zero]
      refine lx_run (by rfl) (.int .i64 ((2 * m : Nat) : Int)) (ex_binK (k := .i64) (m := (m : Int)) (k' := .u64) (n := 1) rfl rfl rfl (run_shl_one m hm)) ?_
      simp only [Act.put, List.setIfInBounds_toArray, List.set_cons_succ, List.set_cons_zero]
      refine lx_run (by rfl) (.pointer (some ⟨gr, 0, none⟩)) (ex_move rfl rfl) ?_
      simp only [Act.put, List.setIfInBounds_toArray, List.set_cons_succ, List.set_cons_zero]
      refine lx_run (by rfl) (.pointer (some ⟨gr, 0, none⟩)) (ex_nil rfl rfl) ?_
      simp only [Act.put, List.setIfInBounds_toArray, List.set_cons_succ, List.set_cons_zero]
      refine lx_run (by rfl) (.pointer (some ⟨gr, 0, none⟩)) (fun W => by go_simp) ?_
      simp only [Act.put, List.setIfInBounds_toArray, List.set_cons_succ, List.set_cons_zero]
      refine lx_read (by rfl) (.slice (some ad) n c) (fun W hW => ex_loadS rfl rfl (HC0 W hW)) ?_
      simp only [Act.put, List.setIfInBounds_toArray, List.set_cons_succ, List.set_cons_zero]
      refine lx_run (by rfl) (.pointer (some ⟨gr, 0, none⟩)) (ex_move rfl rfl) ?_
      simp only [Act.put, List.setIfInBounds_toArray, List.set_cons_succ, List.set_cons_zero]
      refine lx_run (by rfl) (.pointer (some ⟨gr, 0, none⟩)) (ex_nil rfl rfl) ?_
      simp only [Act.put, List.setIfInBounds_toArray, List.set_cons_succ, List.set_cons_zero]
      refine lx_run (by rfl) (.pointer (some ⟨gr, 1, none⟩)) (fun W => by go_simp) ?_
      simp only [Act.put, List.setIfInBounds_toArray, List.set_cons_succ, List.set_cons_zero]
      refine lx_read (by rfl) (.int .i64 ((q : Nat) : Int)) (fun W hW => ex_loadI rfl rfl (HC1 W hW)) ?_
      simp only [Act.put, List.setIfInBounds_toArray, List.set_cons_succ, List.set_cons_zero]
      refine lx_run (by rfl) (.int .i64 ((q / 8 : Nat) : Int)) (ex_quoN (i := q) (d := 8) rfl rfl rfl (by omega) (by omega)) ?_
      simp only [Act.put, List.setIfInBounds_toArray, List.set_cons_succ, List.set_cons_zero]
      refine lx_run (by rfl) (.pointer (some (ad.add ((q / 8) * 1)))) (ex_ixSl Tryd.underlying22 sizeU8' rfl rfl rfl hq8) ?_
      simp only [Act.put, List.setIfInBounds_toArray, List.set_cons_succ, List.set_cons_zero]
      refine lx_read (by rfl) (.int .u8 ((x : Nat) : Int)) (fun W hW => ex_loadU rfl rfl (HCX W hW)) ?_
      simp only [Act.put, List.setIfInBounds_toArray, List.set_cons_succ, List.set_cons_zero]
      refine lx_run (by rfl) (.pointer (some ⟨gr, 0, none⟩)) (ex_move rfl rfl) ?_
      simp only [Act.put, List.setIfInBounds_toArray, List.set_cons_succ, List.set_cons_zero]
      refine lx_run (by rfl) (.pointer (some ⟨gr, 0, none⟩)) (ex_nil rfl rfl) ?_
      simp only [Act.put, List.setIfInBounds_toArray, List.set_cons_succ, List.set_cons_zero]
      refine lx_run (by rfl) (.pointer (some ⟨gr, 1, none⟩)) (fun W => by go_simp) ?_
      simp only [Act.put, List.setIfInBounds_toArray, List.set_cons_succ, List.set_cons_zero]
      refine lx_read (by rfl) (.int .i64 ((q : Nat) : Int)) (fun W hW => ex_loadI rfl rfl (HC1 W hW)) ?_
      simp only [Act.put, List.setIfInBounds_toArray, List.set_cons_succ, List.set_cons_zero]
      refine lx_run (by rfl) (.int .i64 ((q % 8 : Nat) : Int)) (ex_remN (i := q) (d := 8) rfl rfl rfl (by omega) (by omega)) ?_
      simp only [Act.put, List.setIfInBounds_toArray, List.set_cons_succ, List.set_cons_zero]
      refine lx_run (by rfl) (.int .i64 ((s : Nat) : Int)) (by rw [← HS.out]; exact ex_subN (i := 7) (d := q % 8) rfl rfl rfl (by omega) (by omega)) ?_
      simp only [Act.put, List.setIfInBounds_toArray, List.set_cons_succ, List.set_cons_zero]
      refine lx_run (by rfl) (.int .u8 ((x / 2 ^ s : Nat) : Int)) (ex_binK (k := .u8) (m := (x : Int)) (k' := .i64) (n := (s : Int)) rfl rfl rfl (run_shr8 x s hx s8)) ?_
      simp only [Act.put, List.setIfInBounds_toArray, List.set_cons_succ, List.set_cons_zero]
      refine lx_run (by rfl) (.int .u8 ((x / 2 ^ s % 2 : Nat) : Int)) (ex_binK (k := .u8) (m := ((x / 2 ^ s : Nat) : Int)) (k' := .u8) (n := 1) rfl rfl rfl (run_and8 (x / 2 ^ s) hy)) ?_
      simp only [Act.put, List.setIfInBounds_toArray, List.set_cons_succ, List.set_cons_zero]
      refine lx_run (by rfl) (.int .i64 ((x / 2 ^ s % 2 : Nat) : Int)) (ex_conv rfl rfl (run_conv8 (x / 2 ^ s % 2) hb)) ?_
      simp only [Act.put, List.setIfInBounds_toArray, List.set_cons_succ, List.set_cons_zero]
      refine lx_run (by rfl) (.int .i64 ((2 * m + x / 2 ^ s % 2 : Nat) : Int)) (ex_binK (k := .i64) (m := ((2 * m : Nat) : Int)) (k' := .i64) (n := ((x / 2 ^ s % 2 : Nat) : Int)) rfl rfl rfl (run_or2 m (x / 2 ^ s % 2) hm hb2)) ?_
      simp only [Act.put, List.setIfInBounds_toArray, List.set_cons_succ, List.set_cons_zero]
      refine lx_run (by rfl) (.int .i64 ((2 * m + x / 2 ^ s % 2 : Nat) : Int)) (ex_assign rfl rfl) ?_
      simp only [Act.put, List.setIfInBounds_toArray, List.set_cons_succ, List.set_cons_zero]
      refine lx_nil ?_
      intro w9 hx9
      have hr9 := hr.drew.ext hx9
      have hc1 := hr9.cells.2
      have hf1 := hr9.1.frozen 1
      have hb9 := hr9.1.set_ 1 (.int .i64 ((q : Int) + 1))
      simp at hb9
      have hu9 := (hu.trans (Upd.of_ext (S := fun x => x = gr) ((Ext.refl wr).drew.trans hx9)) (fun x hx => .inl hx)).setCell (p := ⟨gr, 1, none⟩) rfl (.int .i64 ((q : Int) + 1))
      have hs9 := hr9.2.1.upd (S := fun x => x = gr) ((Upd.refl (fun x => x = gr) w9).setCell (p := ⟨gr, 1, none⟩) rfl (.int .i64 ((q : Int) + 1))) (fun ad h e => by have := hr9.2.2.2.1 (by omega) ad h; omega)
      have hrest := hr9.2.2
      have HQ := hid_ hq
      have hq9 : q + 1 ≤ 8 * n := by omega
      have hqq : q + 1 = p + (k + 1) := by omega
      generalize hm2 : 2 * m + x / 2 ^ s % 2 = m2 at *
      clear hq hm2
      go_wp2_with fail
      go_roundw
      case rel =>
        refine ⟨k + 1, by omega, by go_num, by rw [HN2.out], ?_, hu9⟩
        rw [← hqq]
        exact ⟨by exact_mod_cast hb9, hs9, hrest.1, hrest.2.1, hrest.2.2.1, hrest.2.2.2.1, hq9⟩
      case measure => simp [intOf]; omega
    · have e1 : k = width := by omega
      rw [e1] at hr ⊢
      clear e1 hk hlt
      go_wp2_with fail
      go_ret2
      exact ⟨rfl, hr, hu⟩
theorem newReader_any (A : Option Addr) (n c : Nat) (bs : List Nat) (w : World) (h : SL w 1 (.slice A n c) n (bytesV bs)) (hl : bs.length = n) (hb : ∀ b ∈ bs, b < 256) (hn : n ≤ 100000000000) :
    Calls Tryd.prog 37 #[.slice A n c] w fun e w' => ∃ gr, e = .returned (.pointer (some ⟨gr, 0, none⟩)) ∧ RdS w' gr A n c 0 bs ∧ Ext w w' ∧ w.heap.size = gr ∧ gr < w'.heap.size := by
  go_enter Tryd.func37, Tryd.ntmps37
  go_wp2_with fail
  go_ret
  refine ⟨_, rfl, ⟨Blk.new _ _ _, h.ext ((Ext.refl w).alloc _), hl, fun h0 ad e => ?_, hb, hn, by omega⟩, (Ext.refl w).alloc _, by omega, by simp⟩
  obtain ⟨A', c', e1, -, -, -, h4⟩ := h
  injection e1 with e1 e2 e3
  obtain ⟨ad', e4, h5, -⟩ := h4 h0
  rw [e, e4] at e1
  injection e1 with e1
  rw [e1]; exact h5
end Go.Proofs.YtgmddhljgfbibaaDoor
