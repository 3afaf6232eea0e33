/- Contracts for the law ScanDecodesUptoCard, part 16: what the functions that it reaches answer, for all arguments that the theorems name. -/
import Derived.Deep.Slices
import Derived.Test.YtgmddhljgfbibaaGreatDoorMScanDecodesUptoCard4
import Derived.Test.YtgmddhljgfbibaaGreatDoorMScanDecodesUptoCard12
import Derived.Test.YtgmddhljgfbibaaGreatDoorMScanDecodesUptoCard14
import Derived.Test.YtgmddhljgfbibaaGreatDoorMScanDecodesUptoCard15
import Derived.Test.YtgmddhljgfbibaaGreatDoorMScanDecodesUptoCard10
import Derived.Test.YtgmddhljgfbibaaGreatDoorMScanDecodesUptoCard3
import Derived.Lib.Bytealg
import Derived.Test.YtgmddhljgfbibaaGreatDoorMScanDecodesUptoCard9
/- Opening a parameter that is a slice of elements of several integers each (blocks, tokens, fields). -/
namespace Go.Proofs.YtgmddhljgfbibaaGreatDoor
set_option linter.unusedVariables false
set_option linter.unusedSimpArgs false
open Go.RowKit Go.ChangeShapes Go.WideShapes Go.ChangeAt
theorem flat_at {α : Type} (f : Nat → List α) (sz : Nat) : ∀ n : Nat, (∀ i, i < n → (f i).length = sz) → ((List.range n).flatMap f).length = n * sz ∧ ∀ i j, i < n → j < sz → ((List.range n).flatMap f)[i * sz + j]? = (f i)[j]?
  | 0, _ => ⟨by simp, fun i j h => by omega⟩
  | n + 1, h => by
    obtain ⟨h1, h2⟩ := flat_at f sz n (fun i hi => h i (by omega))
    have hl := h n (by omega)
    rw [List.range_succ, List.flatMap_append]
    refine ⟨by simp only [List.length_append, h1, List.flatMap_cons, List.flatMap_nil, List.append_nil, hl]; rw [Nat.add_mul]; omega, fun i j hi hj => ?_⟩
    rcases Nat.lt_or_ge i n with hlt | hge
    · have : i * sz + j < n * sz := by
        have := Nat.mul_le_mul_right sz (show i + 1 ≤ n by omega)
        rw [Nat.add_mul] at this
        omega
      rw [List.getElem?_append_left (by omega)]
      exact h2 i j hlt hj
    · obtain rfl : i = n := by omega
      rw [List.getElem?_append_right (by omega), h1, show i * sz + j - i * sz = j by omega]
      simp
section
variable {H : Type} {enc : TypeId × Value → H} {P : Program} {w : World} {base : Nat} {spare : Nat → Bool} {held : Bool}
theorem open_multi {t e : TypeId} {sz fuel : Nat} {cs : List Value} {x : DataW H × List MemPlace} (ht : P.underlying t = some (.slice e)) (hsz : P.cellsOf e = sz) (h0 : 0 < sz)
    (hel : ∀ (fuel : Nat) (cs : List Value) (x : DataW H × List MemPlace), DataW.trod enc P w base spare held fuel e cs = some x → ∃ zs : List Int, zs.length = sz ∧ cs = ints zs ∧ ∀ z ∈ zs, inI64 z)
    (h : DataW.trod enc P w base spare held fuel t cs = some x) : ∃ (v : Value) (n : Nat) (zs : List Int), cs = [v] ∧ zs.length = n * sz ∧ SL w sz v n (ints zs) ∧ ∀ z ∈ zs, inI64 z := by
  rcases Go.Deep.open_slice ht h with ⟨rfl, -⟩ | ⟨a, len, cap, m, n, D, Pl, rfl, -, hl, hm, hmm, -, hx⟩
  · exact ⟨_, 0, [], rfl, by simp, SL.nil w sz, by simp⟩
  · rw [hsz] at hx
    have hle : len ≤ m := by rw [hmm]; split <;> omega
    obtain ⟨f, hf⟩ := Go.Deep.choose_lt (α := List Int) (n := len) (p := fun i zs => zs.length = sz ∧ w.cells? base (a.add (i * sz)) sz = some (ints zs) ∧ ∀ z ∈ zs, inI64 z) (fun i hi => by
      obtain ⟨cs', h1, h2⟩ := hx i (by omega)
      obtain ⟨zs, hz1, rfl, hz3⟩ := hel _ _ _ h2
      exact ⟨zs, hz1, h1, hz3⟩)
    obtain ⟨hfl, hfa⟩ := flat_at f sz len (fun i hi => (hf i hi).1)
    have hcell : ∀ i j u, i < len → (ints (f i))[j]? = some u → w.cell? (a.add (i * sz + j)) = some u := by
      intro i j u hi hu
      obtain ⟨_, _, hc⟩ := World.cells?_some (hf i hi).2.1
      rw [← hu, ← add_of_add]
      exact hc j (by have := (List.getElem?_eq_some_iff.1 hu).1; omega)
    refine ⟨_, len, (List.range len).flatMap f, rfl, hfl, ⟨some a, cap, rfl, hl, by unfold maxLen at hm; omega, by rw [ints_len, hfl], fun hn => ⟨a, rfl, ?_, fun j u hu => ?_⟩⟩, ?_⟩
    · have hq : 0 < (ints (f 0)).length := by rw [ints_len, (hf 0 hn).1]; exact h0
      have := hcell 0 0 _ hn (List.getElem?_eq_getElem hq)
      have h2 := World.block_lt_of_cell? w _ this
      rwa [block_of_add] at h2
    · have hj : j < len * sz := by have := (List.getElem?_eq_some_iff.1 hu).1; rw [ints_len, hfl] at this; exact this
      have hi : j / sz < len := Nat.div_lt_of_lt_mul (by rwa [Nat.mul_comm])
      have hr : j % sz < sz := Nat.mod_lt _ h0
      have e : j / sz * sz + j % sz = j := by rw [Nat.mul_comm]; exact Nat.div_add_mod _ _
      have h3 := hfa (j / sz) (j % sz) hi hr
      rw [e] at h3
      have h4 : (ints (f (j / sz)))[j % sz]? = some u := by
        rw [← hu]
        unfold ints
        rw [List.getElem?_map, List.getElem?_map, h3]
      have := hcell (j / sz) (j % sz) u hi h4
      rwa [e] at this
    · intro z hz
      obtain ⟨i, hi, hzi⟩ := List.mem_flatMap.1 hz
      exact (hf i (List.mem_range.1 hi)).2.2 z hzi
end
section
variable {H : Type} {enc : TypeId × Value → H} {w : World} {base : Nat} {spare : Nat → Bool} {held : Bool}
set_option maxRecDepth 20000 in
theorem open_blocks_v {b0 : Nat} {r : Reach} {v : Value} {d : DataW H} {p : List MemPlace} (hv : Value.okWide Tryz.prog w r b0 29 v) (h : DataW.Trod enc Tryz.prog w base spare held 29 v d p) :
    ∃ zs : List Int, SL w 64 v (zs.length / 64) (ints zs) ∧ zs.length = zs.length / 64 * 64 ∧ ∀ z ∈ zs, inI64 z := by
  obtain ⟨fuel, hf⟩ := h
  obtain ⟨u, n, zs, hcs, hl, hs, hz⟩ := open_multi (sz := 64) Tryz.underlying29 cells64 (by decide) (fun fuel cs x hx => trod_ints_arr Tryz.underlying37 Tryz.underlying3 cellsInt cells64 hx) hf
  have : v = u := slice_value Tryz.underlying29 hv hcs (by obtain ⟨A, c, rfl, -⟩ := hs; simp)
  subst this
  refine ⟨zs, ?_, by omega, hz⟩
  rwa [show zs.length / 64 = n by omega]
end
end Go.Proofs.YtgmddhljgfbibaaGreatDoor
/- A list of tokens as a source: list.Token, the closure of RunBlock. -/
namespace Go.Proofs.YtgmddhljgfbibaaGreatDoor
set_option linter.unusedVariables false
set_option linter.unusedSimpArgs false
open Go.RowKit
theorem SL.rest {w : World} {A : Option Addr} {n c sz : Nat} {xs : List Value} (hs : SL w sz (.slice A n c) n xs) (h1 : 1 ≤ n) :
    SL w sz (.slice (if c = 1 then A else A.map (·.add sz)) (n - 1) (c - 1)) (n - 1) (xs.drop sz) := by
  obtain ⟨A', c', e, h1, h2, h3, h4⟩ := hs
  injection e with e1 e2 e3
  subst e1 e3
  refine ⟨_, _, rfl, by omega, by omega, by rw [List.length_drop, h3, Nat.sub_mul]; omega, fun h0 => ?_⟩
  obtain ⟨ad, rfl, hb, hc⟩ := h4 (by omega)
  rw [if_neg (by omega)]
  refine ⟨ad.add sz, rfl, by rw [block_of_add]; exact hb, fun j u hu => ?_⟩
  rw [add_of_add]
  refine hc _ _ ?_
  rwa [List.getElem?_drop] at hu
theorem SL.updp {S : Nat → Prop} {w w' : World} {size n c : Nat} {A : Option Addr} {xs : List Value} (h : SL w size (.slice A n c) n xs) (hu : Upd S w w') (hS : ∀ ad, A = some ad → 0 < n → ¬ S ad.block) : SL w' size (.slice A n c) n xs := by
  obtain ⟨A', c', e, h1, h2, h3, h4⟩ := h
  injection e with e1 e2 e3
  subst e1 e3
  refine ⟨_, _, rfl, h1, h2, h3, fun h0 => ?_⟩
  obtain ⟨ad, rfl, hb, hc⟩ := h4 h0
  refine ⟨ad, rfl, Nat.lt_of_lt_of_le hb hu.size, fun j u hj => ?_⟩
  rw [← hc j u hj]
  unfold World.cell?
  rw [block_of_add, hu.block _ hb (hS ad rfl h0)]
theorem run_slice1 (A : Option Addr) (n c : Nat) (hn : 1 ≤ n) (hc : n ≤ c) (w : World) :
    (Instr.slice 67 (.slice A n c) (some (.int .i64 1)) none none).run Tryz.prog w = .ok (.slice (if c = 1 then A else A.map (·.add 3)) (n - 1) (c - 1)) w := by
  have e1 : ((1 : Int) ≤ (n : Int)) := by omega
  have e2 : ((n : Int) ≤ (c : Int)) := by omega
  have e3 : 1 ≤ c := by omega
  go_simp
theorem ex_slice1 {o : Oper} {a : Act} {x : Operand} (ho : o.op = .slice 67 x (some (.const (.int .i64 1))) none none) {A : Option Addr} {n c : Nat} (hx : a.eval x = .slice A n c) (hn : 1 ≤ n) (hc : n ≤ c) (w : World) :
    (execOp a.eval o).run Tryz.prog w = .ok (.value (.slice (if c = 1 then A else A.map (·.add 3)) (n - 1) (c - 1))) w := by
  have e : a.eval (.const (.int .i64 1)) = .int .i64 1 := rfl
  simp [execOp, ho, hx, e, Instr.sliceAt, Sem.run_bind, run_underlying Tryz.underlying67, run_slice1 A n c hn hc w]
/-- the next token of a list -/
def listNext (_ : Bool) : List Tok → Tok × Int × List Tok
  | [] => ((0, 0, 0), 3, [])
  | t :: r => (t, 0, r)
/-- block g holds a slice of these tokens -/
def ListIn (T : TypeId) (g B : Nat) (W : World) (L : List Tok) : Prop :=
  (∃ A n c, Blk W g T #[.slice A n c] ∧ SL W 3 (.slice A n c) n (toks L) ∧ L.length = n ∧ n ≤ c ∧ (∀ ad, A = some ad → 0 < n → ad.block < B ∧ ad.block ≠ g)) ∧ g < B ∧ ∀ t ∈ L, I64 t.1 ∧ I64 t.2.1 ∧ I64 t.2.2
theorem ListIn.keep {T : TypeId} {g B : Nat} {W W' : World} {L : List Tok} (h : ListIn T g B W L) (hu : Upd (fun b => B ≤ b) W W') : ListIn T g B W' L := by
  obtain ⟨⟨A, n, c, h1, h2, h3, h4, h5⟩, h6, h7⟩ := h
  exact ⟨⟨A, n, c, hu.blk h1 (by omega), h2.updp hu (fun ad e h0 k => by have := (h5 ad e h0).1; omega), h3, h4, h5⟩, h6, h7⟩
theorem ListIn.next {T : TypeId} {g B : Nat} {W W' : World} {t : Tok} {r : List Tok} {A : Option Addr} {n c : Nat} (h2 : SL W 3 (.slice A n c) n (toks (t :: r))) (h3 : (t :: r).length = n) (h4 : n ≤ c)
    (h5 : ∀ ad, A = some ad → 0 < n → ad.block < B ∧ ad.block ≠ g) (h6 : g < B) (h7 : ∀ x ∈ t :: r, I64 x.1 ∧ I64 x.2.1 ∧ I64 x.2.2) (hu : Upd (fun b => b = g) W W') (hb : Blk W' g T #[.slice (if c = 1 then A else A.map (·.add 3)) (n - 1) (c - 1)]) : ListIn T g B W' r := by
  have hs := h2.rest (by simp at h3; omega)
  rw [show (toks (t :: r)).drop 3 = toks r by simp [toks, tokv]] at hs
  refine ⟨⟨_, _, _, hb, hs.updp hu (fun ad e h0 k => ?_), by simp at h3; omega, by omega, fun ad e h0 => ?_⟩, h6, fun x hx => h7 x (by simp [hx])⟩
  · split at e
    · exact (h5 ad e (by omega)).2 k
    · obtain ⟨a0, e0, e1⟩ := Option.map_eq_some_iff.1 e
      subst e1
      rw [block_of_add] at k
      exact (h5 a0 e0 (by omega)).2 k
  · split at e
    · exact h5 ad e (by omega)
    · obtain ⟨a0, e0, e1⟩ := Option.map_eq_some_iff.1 e
      subst e1
      rw [block_of_add]
      exact h5 a0 e0 (by omega)
end Go.Proofs.YtgmddhljgfbibaaGreatDoor
/- run.From over any source, all ways; run.Block and RunBlock of the reference. -/
namespace Go.Proofs.YtgmddhljgfbibaaGreatDoor
set_option linter.unusedVariables false
set_option linter.unusedSimpArgs false
open Go.RowKit
section
variable {σ : Type} {f : FuncId} {B : Nat} {S : Nat → Prop} {Inv : World → σ → Prop} {next : Bool → σ → Tok × Int × σ}
theorem from_any (before : Int) (hb1 : -2047 ≤ before) (hb2 : before ≤ 2047) {ty : TypeId} {v recv : Value} (hm : Meth Tryz.prog ty v "Token" f recv) (C : Src f #[recv] #[] B S Inv next) (w : World) (s : σ) (hI : Inv w s) (hB : B = w.heap.size) :
    Calls Tryz.prog 26 #[.int .i64 before, .iface ty v] w (FromIs S Inv w (blkZ next before s)) := by
  rcases hq : next true s with ⟨t, x, s'⟩
  by_cases hx : x = 0
  · subst hx
    cases hok : tokOk1 before t with
    | false => rw [blkZ_bad hq hok]; exact from_bad before hb1 hb2 hm C w s hI hB hq hok
    | true => exact from_go before hb1 hb2 hm C w s hI hB hq hok
  · rw [blkZ_err hq hx]; exact from_err before hm C w s hI hB hq hx
end
attribute [local irreducible] zfrom tokensZ accT backR
theorem goB_len {σ : Type} (next : σ → Tok × Int × σ) : ∀ (n i : Nat) (z : List Int) (all : List Tok) (s : σ), 64 - i = n → i ≤ 64 → z.length = 64 → all.length ≤ i → (goB next i z all s).2.1.length = 64 ∧ (goB next i z all s).2.2.1.length ≤ 64 := by
  intro n
  induction n using Nat.strongRecOn with
  | ind n ih =>
    intro i z all s hn hi hz hl
    by_cases hlt : i < 64
    · rcases hq : next s with ⟨t, e, s'⟩
      by_cases he : e = 0
      · subst he
        cases ht : tokOk t with
        | false => rw [goB_bad hlt hq ht]; exact ⟨hz, by dsimp only; omega⟩
        | true =>
          by_cases h1 : t.1 = 0
          · rw [goB_end hlt hq ht h1]; exact ⟨hz, by dsimp only; simp; omega⟩
          · by_cases hf : 64 < i + (t.1 / 16).toNat + 1
            · rw [goB_far hlt hq ht h1 hf]; exact ⟨hz, by dsimp only; omega⟩
            · rw [goB_step hlt hq ht h1 hf]
              exact ih _ (by omega) _ _ _ _ rfl (by omega) (by simpa using hz) (by simp; omega)
      · rw [goB_err hlt hq he]; exact ⟨hz, by dsimp only; omega⟩
    · rw [goB_done hlt]; exact ⟨hz, by dsimp only; omega⟩
theorem blkZ_len {σ : Type} (next : Bool → σ → Tok × Int × σ) (before : Int) (s : σ) : (blkZ next before s).2.1.length = 64 ∧ (blkZ next before s).2.2.1.length ≤ 64 := by
  rcases hq : next true s with ⟨t, x, s'⟩
  by_cases hx : x = 0
  · subst hx
    cases hok : tokOk1 before t with
    | false => rw [blkZ_bad hq hok]; exact ⟨by simp, by simp⟩
    | true =>
      rw [blkZ_fin hq hok]
      have h := goB_len (next false) 63 1 ((List.replicate 64 0).set 0 (before + (backR t.2.1 t.2.2).1)) [t] s' (by omega) (by omega) (by simp) (by simp)
      generalize goB (next false) 1 ((List.replicate 64 0).set 0 (before + (backR t.2.1 t.2.2).1)) [t] s' = g at *
      obtain ⟨e, z, all, q⟩ := g
      dsimp only at h
      by_cases he : e = 0
      · subst he
        by_cases ht : tokensZ before z = all
        · rw [finZ_good ht]; exact ⟨zfrom_len _ _, h.2⟩
        · rw [finZ_ne ht]; exact ⟨by simp, by simp⟩
      · rw [finZ_err he]; exact ⟨by simp, by simp⟩
  · rw [blkZ_err hq hx]; exact ⟨by simp, by simp⟩
end Go.Proofs.YtgmddhljgfbibaaGreatDoor
/- Blocks out of digits, in plain words. -/
namespace Go.Proofs.YtgmddhljgfbibaaGreatDoor
set_option linter.unusedVariables false
set_option linter.unusedSimpArgs false
open Go.RowKit
/-- m blocks more from place p on; flat -/
def segGo (next : Bool → Nat → Tok × Int × Nat) : Nat → Int → Nat → List Int → Int × List Int × Nat
  | 0, _, p, acc => (0, acc, p)
  | m + 1, before, p, acc => if (blkZ next before p).1 ≠ 0 then ((blkZ next before p).1, [], p) else segGo next m ((blkZ next before p).2.1.getD 0 0) (blkZ next before p).2.2.2 (acc ++ (blkZ next before p).2.1)
theorem segGo_err {next : Bool → Nat → Tok × Int × Nat} {m : Nat} {before : Int} {p : Nat} {acc : List Int} (h : (blkZ next before p).1 ≠ 0) : segGo next (m + 1) before p acc = ((blkZ next before p).1, [], p) := by rw [segGo, if_pos h]
theorem segGo_ok {next : Bool → Nat → Tok × Int × Nat} {m : Nat} {before : Int} {p : Nat} {acc : List Int} (h : (blkZ next before p).1 = 0) : segGo next (m + 1) before p acc = segGo next m ((blkZ next before p).2.1.getD 0 0) (blkZ next before p).2.2.2 (acc ++ (blkZ next before p).2.1) := by rw [segGo, if_neg (by simp [h])]
theorem segGo_same {n1 n2 : Bool → Nat → Tok × Int × Nat} (hs : ∀ b, SameN (n1 b) (n2 b)) : ∀ (m : Nat) (before : Int) (p : Nat) (acc : List Int), segGo n1 m before p acc = segGo n2 m before p acc
  | 0, _, _, _ => rfl
  | m + 1, before, p, acc => by
    obtain ⟨h1, h2, h3, h4⟩ := blkZ_same hs before p
    by_cases he : (blkZ n1 before p).1 = 0
    · rw [segGo_ok he, segGo_ok (by rw [← h1]; exact he), segGo_same hs m, h2, h4 he]
    · rw [segGo_err he, segGo_err (by rw [← h1]; exact he), h1]
theorem segGo_len {next : Bool → Nat → Tok × Int × Nat} : ∀ (m : Nat) (before : Int) (p : Nat) (acc : List Int) (k : Nat), acc.length = k * 64 → (segGo next m before p acc).1 = 0 → (segGo next m before p acc).2.1.length = (k + m) * 64
  | 0, _, _, acc, k, h, _ => by rw [segGo]; simpa using h
  | m + 1, before, p, acc, k, h, h0 => by
    by_cases he : (blkZ next before p).1 = 0
    · rw [segGo_ok he] at h0 ⊢
      have := segGo_len m _ _ (acc ++ (blkZ next before p).2.1) (k + 1) (by rw [List.length_append, h, (blkZ_len next before p).1]; omega) h0
      rw [this]
      congr 1
      omega
    · rw [segGo_err he] at h0
      exact absurd h0 he
/-- what is left must be less than a byte, and ones -/
def segFin (D : List Bool) (r : Int × List Int × Nat) : Int × List Int := if r.1 ≠ 0 then (r.1, []) else if 7 < D.length - r.2.2 ∨ false ∈ D.drop r.2.2 then (4, []) else (0, r.2.1)
theorem ones_iff (L : List Bool) : numB L = 2 ^ L.length - 1 ↔ ¬ false ∈ L := by
  rw [← numB_ones]
  constructor
  · intro h hm
    have e : L = List.replicate L.length true := numB_inj (by simp) h
    rw [e] at hm
    have := (List.mem_replicate.1 hm).2
    cases this
  · intro h
    have e : L = List.replicate L.length true := by
      refine List.eq_replicate_iff.2 ⟨rfl, fun b hb => ?_⟩
      cases b with
      | true => rfl
      | false => exact absurd hb h
    rw [← e]
theorem zero_iff : ∀ (L : List Bool), 0 ≤ Lib.indexByte (L.map chB) 48 ↔ false ∈ L
  | [] => by simp [Lib.indexByte]
  | b :: l => by
    have ih := zero_iff l
    have hge := Lib.indexByte_ge (l.map chB) 48
    rw [List.map_cons, Lib.indexByte]
    cases b with
    | false => simp [chB]
    | true =>
      rw [if_neg (by simp [chB])]
      by_cases h : Lib.indexByte (l.map chB) 48 = -1
      · rw [if_pos (by simpa using h)]
        rw [h] at ih
        simp only [List.mem_cons, Bool.false_eq_true, false_or]
        rw [← ih]
      · rw [if_neg (by simpa using h)]
        simp only [List.mem_cons, Bool.false_eq_true, false_or]
        rw [← ih]
        omega
/-- what Decode answers for good tables -/
def decR (r : Bool) (T1 T2 : List Tok) (nn : Int) (bs : Option (List Nat)) : Int × List Int :=
  if nn < 0 ∨ 400 < nn then (1, []) else match bs with
    | none => (4, [])
    | some pb => segFin (digsOf pb) (segGo (segNext r T1 T2 (digsOf pb)) nn.toNat 0 0 [])
theorem decR_same (T1 T2 : List Tok) (nn : Int) (bs : Option (List Nat)) : decR true T1 T2 nn bs = decR false T1 T2 nn bs := by
  unfold decR
  cases bs with
  | none => rfl
  | some pb => dsimp only; rw [segGo_same (n1 := segNext true T1 T2 (digsOf pb)) (n2 := segNext false T1 T2 (digsOf pb)) (fun b s => segNext_same T1 T2 (digsOf pb) b s)]
/-- what Decode hands back -/
def DecIs (r : Int × List Int) (w : World) (e : Ending) (w' : World) : Prop :=
  Ext w w' ∧ if r.1 = 0 then ∃ B k d, e = .returned (.tuple #[.slice B k d, .int .i64 0]) ∧ r.2.length = k * 64 ∧ SL w' 64 (.slice B k d) k (ints r.2) ∧ (B = none → d = 0)
    else e = .returned (.tuple #[.slice none 0 0, .int .i64 r.1])
theorem segNext_wf {r : Bool} {T1 T2 : List Tok} {D : List Bool} {b : Bool} {p : Nat} (hT1 : ∀ t ∈ T1, 0 ≤ t.1 ∧ t.1 ≤ 255) (hT2 : ∀ t ∈ T2, 0 ≤ t.1 ∧ t.1 ≤ 255) (h : (segNext r T1 T2 D b p).2.1 = 0) :
    I64 (segNext r T1 T2 D b p).1.1 ∧ I64 (segNext r T1 T2 D b p).1.2.1 ∧ I64 (segNext r T1 T2 D b p).1.2.2 := by
  by_cases h0 : (symZ (if b then T1 else T2) D p).2.2 ≠ 0
  · rw [segNext_sym h0] at h
    exact absurd h h0
  · obtain ⟨s, p', e⟩ : ∃ s p', symZ (if b then T1 else T2) D p = (s, p', 0) := ⟨_, _, Prod.ext rfl (Prod.ext rfl (by simpa using h0))⟩
    have hr := symZ_mem (T := if b then T1 else T2) (D := D) (p := p) (by cases b <;> assumption)
    rw [e] at hr
    dsimp only at hr
    by_cases hb : 12 < (if b then s else s % 16) ∨ (b = false ∧ 11 < (if b then s else s % 16))
    · rw [segNext_wide e rfl hb] at h; cases h
    · by_cases hl : D.length < p' + (if b then s else s % 16).toNat
      · rw [segNext_short e rfl hb hl] at h; cases h
      · rw [segNext_good e rfl hb hl]
        have h12 : (if b then s else s % 16) ≤ 12 := Int.not_lt.1 fun k => hb (.inl k)
        have h00 : 0 ≤ (if b then s else s % 16) := by cases b <;> simp <;> omega
        have hn := numB_take_lt (D.drop p') (if b then s else s % 16).toNat 12 (by omega)
        have h4 : (2 : Nat) ^ 12 = 4096 := by decide
        rw [h4] at hn
        unfold I64
        dsimp only
        refine ⟨by omega, by omega, by omega⟩
end Go.Proofs.YtgmddhljgfbibaaGreatDoor
/- The tokens of blocks, one behind the other, and whoever eats them, in plain words. -/
namespace Go.Proofs.YtgmddhljgfbibaaGreatDoor
set_option linter.unusedVariables false
set_option linter.unusedSimpArgs false
open Go.RowKit
/-- a token whose symbol is a byte and whose value fits its width -/
def tokWf (t : Tok) : Prop := 0 ≤ t.1 ∧ t.1 ≤ 255 ∧ 0 ≤ t.2.1 ∧ t.2.1 ≤ 12 ∧ 0 ≤ t.2.2 ∧ t.2.2 < 2 ^ t.2.1.toNat
theorem bitsZ_wf (n : Int) : 0 ≤ (bitsZ n).1 ∧ (bitsZ n).1 ≤ 12 ∧ 0 ≤ (bitsZ n).2.1 ∧ (bitsZ n).2.1 < 2 ^ (bitsZ n).1.toNat := by
  unfold bitsZ
  split
  · next h =>
    obtain ⟨s1, s2, s3⟩ := szN_spec n h.1 h.2
    have p := pow_pos' (szN n)
    have s2' : (n.natAbs : Int) < 2 ^ szN n := by exact_mod_cast s2
    refine ⟨by simp, by simp; omega, ?_, ?_⟩
    · show 0 ≤ (if n < 0 then n + 2 ^ szN n - 1 else n)
      split <;> omega
    · show (if n < 0 then n + 2 ^ szN n - 1 else n) < 2 ^ ((szN n : Nat) : Int).toNat
      rw [Int.toNat_natCast]
      split <;> omega
  · simp
theorem tokZ_wf (r : Nat) (n : Int) (h : r ≤ 15) : tokWf (tokZ (r : Int) n) := by
  obtain ⟨a, b, c, d⟩ := bitsZ_wf n
  unfold tokWf tokZ
  dsimp only
  exact ⟨by omega, by omega, a, b, c, d⟩
theorem accT_wf (t0 : Tok) (l : List Int) (h0 : tokWf t0) : ∀ k, k ≤ l.length → ∀ t ∈ (accT t0 l k).1, tokWf t := by
  intro k
  induction k with
  | zero => intro _ t ht; rw [accT_zero] at ht; simp at ht; subst ht; exact h0
  | succ k ih =>
    intro hk t ht
    have ih := ih (by omega)
    rw [accT_succ t0 l k (by omega)] at ht
    generalize accT t0 l k = s at *
    by_cases hz : l[k] = 0
    · rw [stepT_zero hz] at ht; exact ih t ht
    · rw [stepT_one hz] at ht
      simp only [List.mem_append, List.mem_replicate, List.mem_singleton] at ht
      rcases ht with (ht | ⟨-, rfl⟩) | rfl
      · exact ih t ht
      · unfold tokWf long; decide
      · exact tokZ_wf _ _ (by omega)
theorem tokensZ_wf (before : Int) (z : List Int) (hz : z.length = 64) : ∀ t ∈ tokensZ before z, tokWf t := by
  intro t ht
  have h := accT_wf (tokZ 0 (z.getD 0 0 - before)) (z.drop 1) (tokZ_wf 0 _ (by omega)) 63 (by simp; omega)
  unfold tokensZ at ht
  simp only at ht
  split at ht
  · rcases List.mem_append.1 ht with h1 | h1
    · exact h t h1
    · simp at h1; subst h1; unfold tokWf; decide
  · exact h t ht
/-- block k of a flat list -/
def blkAt (Z : List Int) (k : Nat) : List Int := (Z.drop (k * 64)).take 64
/-- the first number of the block ahead -/
def befAt (Z : List Int) (k : Nat) : Int := if k = 0 then 0 else (blkAt Z (k - 1)).getD 0 0
/-- the tokens of block k -/
def toksAt (Z : List Int) (k : Nat) : List Tok := tokensZ (befAt Z k) (zto (blkAt Z k))
/-- tokens, each with whether it is the first -/
def flagT (T : List Tok) : List (Tok × Bool) := T.zipIdx.map fun p => (p.1, p.2 == 0)
theorem flagT_len (T : List Tok) : (flagT T).length = T.length := by simp [flagT]
theorem flagT_drop (T : List Tok) (j : Nat) (h : j < T.length) : (flagT T).drop j = (T[j], j == 0) :: (flagT T).drop (j + 1) := by
  rw [List.drop_eq_getElem_cons (by rw [flagT_len]; exact h)]
  simp [flagT]
/-- all tokens from block k on -/
def flagsAt (Z : List Int) (n k : Nat) : List (Tok × Bool) := (List.range' k (n - k)).flatMap fun i => flagT (toksAt Z i)
theorem flagsAt_succ (Z : List Int) (n k : Nat) (h : k < n) : flagsAt Z n k = flagT (toksAt Z k) ++ flagsAt Z n (k + 1) := by
  unfold flagsAt
  rw [show n - k = (n - (k + 1)) + 1 by omega, List.range'_succ, List.flatMap_cons]
theorem flagsAt_end (Z : List Int) (n : Nat) : flagsAt Z n n = [] := by unfold flagsAt; simp
section
variable {σ : Type}
/-- who eats tokens, until an error -/
def eatGo (step : σ → Tok → Bool → Int × σ) : List (Tok × Bool) → σ → Int × σ
  | [], s => (0, s)
  | (t, b) :: r, s => if (step s t b).1 ≠ 0 then step s t b else eatGo step r (step s t b).2
def eachZ (step : σ → Tok → Bool → Int × σ) (n : Nat) (Z : List Int) (s : σ) : Int × σ :=
  if 400 < n then (2, s) else if allIn Z (-2047) 2047 = false then (1, s) else eatGo step (flagsAt Z n 0) s
theorem eatGo_err {step : σ → Tok → Bool → Int × σ} {t : Tok} {b : Bool} {r : List (Tok × Bool)} {s : σ} (h : (step s t b).1 ≠ 0) : eatGo step ((t, b) :: r) s = step s t b := by unfold eatGo; rw [if_pos h]
theorem eatGo_ok {step : σ → Tok → Bool → Int × σ} {t : Tok} {b : Bool} {r : List (Tok × Bool)} {s : σ} (h : (step s t b).1 = 0) : eatGo step ((t, b) :: r) s = eatGo step r (step s t b).2 := by rw [eatGo, if_neg (by simp [h])]
end
theorem blkAt_len (Z : List Int) (n k : Nat) (hz : Z.length = n * 64) (h : k < n) : (blkAt Z k).length = 64 := by
  unfold blkAt
  rw [List.length_take, List.length_drop]
  omega
theorem blkAt_mem {Z : List Int} {k : Nat} {x : Int} (h : x ∈ blkAt Z k) : x ∈ Z := List.mem_of_mem_drop (List.mem_of_mem_take h)
theorem blkAt_in (Z : List Int) (n : Nat) (hz : Z.length = n * 64) : allIn Z (-2047) 2047 = true ↔ ∀ k, k < n → allIn (blkAt Z k) (-2047) 2047 = true := by
  constructor
  · intro h k _
    rw [allIn_iff] at h ⊢
    exact fun x hx => h x (blkAt_mem hx)
  · intro h
    rw [allIn_iff]
    intro x hx
    obtain ⟨i, hi, rfl⟩ := List.getElem_of_mem hx
    have h1 := allIn_iff.1 (h (i / 64) (by omega))
    have h2 : (blkAt Z (i / 64))[i % 64]? = some Z[i] := by
      unfold blkAt
      rw [List.getElem?_take_of_lt (by omega), List.getElem?_drop, show i / 64 * 64 + i % 64 = i by omega, List.getElem?_eq_getElem hi]
    exact h1 _ (List.mem_of_getElem? h2)
end Go.Proofs.YtgmddhljgfbibaaGreatDoor
