/- Contracts for the law RunBlocks, part 12: what the functions that it reaches answer, for all arguments that the theorems name. -/
import Derived.Deep.Slices
import Derived.Test.YtkfdkkhhkciocaaMRunBlocks9
import Derived.Test.YtkfdkkhhkciocaaMRunBlocks7
import Derived.Test.YtkfdkkhhkciocaaMRunBlocks10
import Derived.Test.YtkfdkkhhkciocaaMRunBlocks11
/- Opening a parameter that is a slice of elements of several integers each (blocks, tokens, fields). -/
namespace Go.Proofs.Ytkfdkkhhkciocaa
set_option linter.unusedVariables false
set_option linter.unusedSimpArgs false
open Go.RowKit Go.ChangeShapes Go.WideShapes Go.ChangeAt
theorem flat_at {α : Type} (f : Nat → List α) (sz : Nat) : ∀ n : Nat, (∀ i, i < n → (f i).length = sz) → ((List.range n).flatMap f).length = n * sz ∧ ∀ i j, i < n → j < sz → ((List.range n).flatMap f)[i * sz + j]? = (f i)[j]?
  | 0, _ => ⟨by simp, fun i j h => by omega⟩
  | n + 1, h => by
    obtain ⟨h1, h2⟩ := flat_at f sz n (fun i hi => h i (by omega))
    have hl := h n (by omega)
    rw [List.range_succ, List.flatMap_append]
    refine ⟨by simp only [List.length_append, h1, List.flatMap_cons, List.flatMap_nil, List.append_nil, hl]; rw [Nat.add_mul]; omega, fun i j hi hj => ?_⟩
    rcases Nat.lt_or_ge i n with hlt | hge
    · have : i * sz + j < n * sz := by
        have := Nat.mul_le_mul_right sz (show i + 1 ≤ n by omega)
        rw [Nat.add_mul] at this
        omega
      rw [List.getElem?_append_left (by omega)]
      exact h2 i j hlt hj
    · obtain rfl : i = n := by omega
      rw [List.getElem?_append_right (by omega), h1, show i * sz + j - i * sz = j by omega]
      simp
section
variable {H : Type} {enc : TypeId × Value → H} {P : Program} {w : World} {base : Nat} {spare : Nat → Bool} {held : Bool}
theorem open_multi {t e : TypeId} {sz fuel : Nat} {cs : List Value} {x : DataW H × List MemPlace} (ht : P.underlying t = some (.slice e)) (hsz : P.cellsOf e = sz) (h0 : 0 < sz)
    (hel : ∀ (fuel : Nat) (cs : List Value) (x : DataW H × List MemPlace), DataW.trod enc P w base spare held fuel e cs = some x → ∃ zs : List Int, zs.length = sz ∧ cs = ints zs ∧ ∀ z ∈ zs, inI64 z)
    (h : DataW.trod enc P w base spare held fuel t cs = some x) : ∃ (v : Value) (n : Nat) (zs : List Int), cs = [v] ∧ zs.length = n * sz ∧ SL w sz v n (ints zs) ∧ ∀ z ∈ zs, inI64 z := by
  rcases Go.Deep.open_slice ht h with ⟨rfl, -⟩ | ⟨a, len, cap, m, n, D, Pl, rfl, -, hl, hm, hmm, -, hx⟩
  · exact ⟨_, 0, [], rfl, by simp, SL.nil w sz, by simp⟩
  · rw [hsz] at hx
    have hle : len ≤ m := by rw [hmm]; split <;> omega
    obtain ⟨f, hf⟩ := Go.Deep.choose_lt (α := List Int) (n := len) (p := fun i zs => zs.length = sz ∧ w.cells? base (a.add (i * sz)) sz = some (ints zs) ∧ ∀ z ∈ zs, inI64 z) (fun i hi => by
      obtain ⟨cs', h1, h2⟩ := hx i (by omega)
      obtain ⟨zs, hz1, rfl, hz3⟩ := hel _ _ _ h2
      exact ⟨zs, hz1, h1, hz3⟩)
    obtain ⟨hfl, hfa⟩ := flat_at f sz len (fun i hi => (hf i hi).1)
    have hcell : ∀ i j u, i < len → (ints (f i))[j]? = some u → w.cell? (a.add (i * sz + j)) = some u := by
      intro i j u hi hu
      obtain ⟨_, _, hc⟩ := World.cells?_some (hf i hi).2.1
      rw [← hu, ← add_of_add]
      exact hc j (by have := (List.getElem?_eq_some_iff.1 hu).1; omega)
    refine ⟨_, len, (List.range len).flatMap f, rfl, hfl, ⟨some a, cap, rfl, hl, by unfold maxLen at hm; omega, by rw [ints_len, hfl], fun hn => ⟨a, rfl, ?_, fun j u hu => ?_⟩⟩, ?_⟩
    · have hq : 0 < (ints (f 0)).length := by rw [ints_len, (hf 0 hn).1]; exact h0
      have := hcell 0 0 _ hn (List.getElem?_eq_getElem hq)
      have h2 := World.block_lt_of_cell? w _ this
      rwa [block_of_add] at h2
    · have hj : j < len * sz := by have := (List.getElem?_eq_some_iff.1 hu).1; rw [ints_len, hfl] at this; exact this
      have hi : j / sz < len := Nat.div_lt_of_lt_mul (by rwa [Nat.mul_comm])
      have hr : j % sz < sz := Nat.mod_lt _ h0
      have e : j / sz * sz + j % sz = j := by rw [Nat.mul_comm]; exact Nat.div_add_mod _ _
      have h3 := hfa (j / sz) (j % sz) hi hr
      rw [e] at h3
      have h4 : (ints (f (j / sz)))[j % sz]? = some u := by
        rw [← hu]
        unfold ints
        rw [List.getElem?_map, List.getElem?_map, h3]
      have := hcell (j / sz) (j % sz) u hi h4
      rwa [e] at this
    · intro z hz
      obtain ⟨i, hi, hzi⟩ := List.mem_flatMap.1 hz
      exact (hf i (List.mem_range.1 hi)).2.2 z hzi
end
section
variable {H : Type} {enc : TypeId × Value → H} {w : World} {base : Nat} {spare : Nat → Bool} {held : Bool}
set_option maxRecDepth 20000 in
theorem open_blocks_v {b0 : Nat} {r : Reach} {v : Value} {d : DataW H} {p : List MemPlace} (hv : Value.okWide Try.prog w r b0 29 v) (h : DataW.Trod enc Try.prog w base spare held 29 v d p) :
    ∃ zs : List Int, SL w 64 v (zs.length / 64) (ints zs) ∧ zs.length = zs.length / 64 * 64 ∧ ∀ z ∈ zs, inI64 z := by
  obtain ⟨fuel, hf⟩ := h
  obtain ⟨u, n, zs, hcs, hl, hs, hz⟩ := open_multi (sz := 64) Try.underlying29 cells64 (by decide) (fun fuel cs x hx => trod_ints_arr Try.underlying24 Try.underlying3 cellsInt cells64 hx) hf
  have : v = u := slice_value Try.underlying29 hv hcs (by obtain ⟨A, c, rfl, -⟩ := hs; simp)
  subst this
  refine ⟨zs, ?_, by omega, hz⟩
  rwa [show zs.length / 64 = n by omega]
end
end Go.Proofs.Ytkfdkkhhkciocaa
/- A list of tokens as a source: list.Token, the closure of RunBlock. -/
namespace Go.Proofs.Ytkfdkkhhkciocaa
set_option linter.unusedVariables false
set_option linter.unusedSimpArgs false
open Go.RowKit
theorem SL.rest {w : World} {A : Option Addr} {n c sz : Nat} {xs : List Value} (hs : SL w sz (.slice A n c) n xs) (h1 : 1 ≤ n) :
    SL w sz (.slice (if c = 1 then A else A.map (·.add sz)) (n - 1) (c - 1)) (n - 1) (xs.drop sz) := by
  obtain ⟨A', c', e, h1, h2, h3, h4⟩ := hs
  injection e with e1 e2 e3
  subst e1 e3
  refine ⟨_, _, rfl, by omega, by omega, by rw [List.length_drop, h3, Nat.sub_mul]; omega, fun h0 => ?_⟩
  obtain ⟨ad, rfl, hb, hc⟩ := h4 (by omega)
  rw [if_neg (by omega)]
  refine ⟨ad.add sz, rfl, by rw [block_of_add]; exact hb, fun j u hu => ?_⟩
  rw [add_of_add]
  refine hc _ _ ?_
  rwa [List.getElem?_drop] at hu
theorem SL.updp {S : Nat → Prop} {w w' : World} {size n c : Nat} {A : Option Addr} {xs : List Value} (h : SL w size (.slice A n c) n xs) (hu : Upd S w w') (hS : ∀ ad, A = some ad → 0 < n → ¬ S ad.block) : SL w' size (.slice A n c) n xs := by
  obtain ⟨A', c', e, h1, h2, h3, h4⟩ := h
  injection e with e1 e2 e3
  subst e1 e3
  refine ⟨_, _, rfl, h1, h2, h3, fun h0 => ?_⟩
  obtain ⟨ad, rfl, hb, hc⟩ := h4 h0
  refine ⟨ad, rfl, Nat.lt_of_lt_of_le hb hu.size, fun j u hj => ?_⟩
  rw [← hc j u hj]
  unfold World.cell?
  rw [block_of_add, hu.block _ hb (hS ad rfl h0)]
theorem run_slice1 (A : Option Addr) (n c : Nat) (hn : 1 ≤ n) (hc : n ≤ c) (w : World) :
    (Instr.slice 22 (.slice A n c) (some (.int .i64 1)) none none).run Try.prog w = .ok (.slice (if c = 1 then A else A.map (·.add 3)) (n - 1) (c - 1)) w := by
  have e1 : ((1 : Int) ≤ (n : Int)) := by omega
  have e2 : ((n : Int) ≤ (c : Int)) := by omega
  have e3 : 1 ≤ c := by omega
  go_simp
theorem ex_slice1 {o : Oper} {a : Act} {x : Operand} (ho : o.op = .slice 22 x (some (.const (.int .i64 1))) none none) {A : Option Addr} {n c : Nat} (hx : a.eval x = .slice A n c) (hn : 1 ≤ n) (hc : n ≤ c) (w : World) :
    (execOp a.eval o).run Try.prog w = .ok (.value (.slice (if c = 1 then A else A.map (·.add 3)) (n - 1) (c - 1))) w := by
  have e : a.eval (.const (.int .i64 1)) = .int .i64 1 := rfl
  simp [execOp, ho, hx, e, Instr.sliceAt, Sem.run_bind, run_underlying Try.underlying22, run_slice1 A n c hn hc w]
/-- the next token of a list -/
def listNext (_ : Bool) : List Tok → Tok × Int × List Tok
  | [] => ((0, 0, 0), 3, [])
  | t :: r => (t, 0, r)
/-- block g holds a slice of these tokens -/
def ListIn (T : TypeId) (g B : Nat) (W : World) (L : List Tok) : Prop :=
  (∃ A n c, Blk W g T #[.slice A n c] ∧ SL W 3 (.slice A n c) n (toks L) ∧ L.length = n ∧ n ≤ c ∧ (∀ ad, A = some ad → 0 < n → ad.block < B ∧ ad.block ≠ g)) ∧ g < B ∧ ∀ t ∈ L, I64 t.1 ∧ I64 t.2.1 ∧ I64 t.2.2
theorem ListIn.keep {T : TypeId} {g B : Nat} {W W' : World} {L : List Tok} (h : ListIn T g B W L) (hu : Upd (fun b => B ≤ b) W W') : ListIn T g B W' L := by
  obtain ⟨⟨A, n, c, h1, h2, h3, h4, h5⟩, h6, h7⟩ := h
  exact ⟨⟨A, n, c, hu.blk h1 (by omega), h2.updp hu (fun ad e h0 k => by have := (h5 ad e h0).1; omega), h3, h4, h5⟩, h6, h7⟩
theorem ListIn.next {T : TypeId} {g B : Nat} {W W' : World} {t : Tok} {r : List Tok} {A : Option Addr} {n c : Nat} (h2 : SL W 3 (.slice A n c) n (toks (t :: r))) (h3 : (t :: r).length = n) (h4 : n ≤ c)
    (h5 : ∀ ad, A = some ad → 0 < n → ad.block < B ∧ ad.block ≠ g) (h6 : g < B) (h7 : ∀ x ∈ t :: r, I64 x.1 ∧ I64 x.2.1 ∧ I64 x.2.2) (hu : Upd (fun b => b = g) W W') (hb : Blk W' g T #[.slice (if c = 1 then A else A.map (·.add 3)) (n - 1) (c - 1)]) : ListIn T g B W' r := by
  have hs := h2.rest (by simp at h3; omega)
  rw [show (toks (t :: r)).drop 3 = toks r by simp [toks, tokv]] at hs
  refine ⟨⟨_, _, _, hb, hs.updp hu (fun ad e h0 k => ?_), by simp at h3; omega, by omega, fun ad e h0 => ?_⟩, h6, fun x hx => h7 x (by simp [hx])⟩
  · split at e
    · exact (h5 ad e (by omega)).2 k
    · obtain ⟨a0, e0, e1⟩ := Option.map_eq_some_iff.1 e
      subst e1
      rw [block_of_add] at k
      exact (h5 a0 e0 (by omega)).2 k
  · split at e
    · exact h5 ad e (by omega)
    · obtain ⟨a0, e0, e1⟩ := Option.map_eq_some_iff.1 e
      subst e1
      rw [block_of_add]
      exact h5 a0 e0 (by omega)
set_option maxHeartbeats 1000000 in
theorem listToken_any (g B : Nat) (T : TypeId) (b : Bool) (L : List Tok) (w : World) (h : ListIn T g B w L) (hB : B ≤ w.heap.size) :
    Calls Try.prog 144 #[.pointer (some ⟨g, 0, none⟩), .bool b] w fun e w' => e = .returned (.tuple #[.agg (tokv (listNext b L).1).toArray, .int .i64 (listNext b L).2.1]) ∧ ListIn T g B w' (listNext b L).2.2 ∧ Upd (fun b => b = g) w w' := by
  have h' := h
  obtain ⟨⟨A, n, c, h1, h2, h3, h4, h5⟩, h6, h7⟩ := h
  have h2' := h2
  have hcell := (h1.cell 0).trans (show (#[Value.slice A n c] : Array Value)[0]? = some (.slice A n c) from rfl)
  cases L with
  | nil =>
    have hn : n = 0 := by simpa using h3.symm
    subst hn
    have HBT : Hid (Try.prog.built 74 [] = some (tokv (0, 0, 0)).toArray) := hid_ (by kernel_rfl)
    have HH := hid_ h'
    clear h' h1 h2 h2' h3 h5 h7
    go_enter Try.func144, Try.ntmps144
    go_wp2_with (first
      | (show wpList _ _ _ (⟨some 4, _, _, _, _, _⟩ :: _) _ _; refine wpList_alloc_abs' rfl (some 4) rfl 74 rfl _ zeroTok ?_; intro w1 g1 hb1 hx1 hg1; have hcell1 := (hx1.cell (p := ⟨g, 0, none⟩) (by show g < _; omega)).trans hcell)
      | (show wpList _ _ _ (⟨some 13, _, _, _, _, _⟩ :: _) _ _; refine wpList_build0 rfl 74 rfl _ HBT.out ?_)
      | (show wpList _ _ _ (⟨none, .store _ (.tmp 4) (.tmp 13), _, _, _, _⟩ :: _) _ _; refine wpList_store_blk rfl 74 (.tmp 4) (.tmp 13) rfl _ _ rfl rfl hb1 3 sizeTok rfl rfl (tok_oneA _) ?_; intro w2 hb2 hg2))
    have hx2 := hx1.grown hg2 hg1
    refine ret_cell_tmp rfl rfl _ rfl hb2 _ Try.underlying74 rfl 3 sizeTok rfl ⟨rfl, HH.out.keep (upd_of_ext hx2), upd_of_ext hx2⟩
  | cons t r =>
    obtain ⟨t1, t2, t3⟩ := t
    have h3' : n = r.length + 1 := by simpa using h3.symm
    have hn1 : 1 ≤ n := by omega
    have hn0 : ((n : Int) == 0) = false := by simp; omega
    obtain ⟨ad, rfl, hab, hca⟩ := h2'.part (k := 0) hn1
    rw [show ((toks ((t1, t2, t3) :: r)).drop (0 * 3)).take 3 = tokv (t1, t2, t3) by simp [toks, tokv]] at hca
    have HCA := hid_ hca
    have HK := hid_ (fun W' => ListIn.next (T := T) (W' := W') h2 h3 h4 h5 h6 h7)
    have HB1 := hid_ h1
    obtain ⟨A2, hA2⟩ : ∃ A2, A2 = (if c = 1 then some ad else (some ad).map (·.add 3)) := ⟨_, rfl⟩
    have HA2 := hid_ hA2
    have hgw : g < w.heap.size := by omega
    clear h' h1 h2 h2' h3 h5 h7 hca h3' hA2
    go_enter Try.func144, Try.ntmps144
    go_wp2_with (first
      | (show wpList _ _ _ (⟨some 4, _, _, _, _, _⟩ :: _) _ _; refine wpList_alloc_abs' rfl (some 4) rfl 74 rfl _ zeroTok ?_; intro w1 g1 hb1 hx1 hg1; have hcell1 := (hx1.cell (p := ⟨g, 0, none⟩) (by show g < _; omega)).trans hcell; have HC1 : Hid (CellsAt w1 (ad.add (0 * 3)) (tokv (t1, t2, t3))) := hid_ (fun j u hu => (hx1.cell (p := (ad.add (0 * 3)).add j) (by rw [block_of_add, block_of_add]; exact hab)).trans (HCA.out j u hu)))
      | (show wpList _ _ _ (⟨some 18, _, _, _, _, _⟩ :: _) _ _; refine wl_run rfl (.pointer (some (ad.add (0 * 3)))) (ex_ixSl Try.underlying22 sizeTok rfl rfl rfl (by omega)) ?_)
      | (show wpList _ _ _ (⟨some 19, _, _, _, _, _⟩ :: _) _ _; refine wpList_load_any (by rfl) 74 (.tmp 18) rfl (ad.add (0 * 3)) rfl (tokv (t1, t2, t3)) _ HC1.out Try.underlying74 rfl size74 ?_)
      | (show wpList _ _ _ (⟨some 6, _, _, _, _, _⟩ :: _) _ _; refine wpList_alloc_abs' rfl (some 6) rfl 74 rfl _ zeroTok ?_; intro w2 g2 hb2 hx2 hg2)
      | (show wpList _ _ _ (⟨none, .store _ (.tmp 6) (.tmp 19), _, _, _, _⟩ :: _) _ _; refine wpList_store_blk rfl 74 (.tmp 6) (.tmp 19) rfl _ _ rfl rfl hb2 3 sizeTok rfl rfl (tok_oneA (t1, t2, t3)) ?_; intro w3 hb3 hg3; have hx3 : Ext w w3 := (hx1.trans hx2).grown hg3 (by have := hx1.size; omega); have hbg3 := HB1.out.ext hx3; have hcell3 := (hx3.cell (p := ⟨g, 0, none⟩) (by show g < _; omega)).trans hcell; have hfz3 := hbg3.frozen 0)
      | (show wpList _ _ _ (⟨some 25, _, _, _, _, _⟩ :: _) _ _; refine wl_run rfl (.slice A2 (n - 1) (c - 1)) (by rw [HA2.out]; exact ex_slice1 rfl rfl hn1 h4) ?_)
      | (show wpList _ _ _ (⟨some 28, _, _, _, _, _⟩ :: _) _ _; refine wpList_load_blk rfl 74 (.tmp 6) rfl g2 rfl (hb3.far (p := ⟨g, 0, none⟩) (by show g2 ≠ g; have := hx1.size; omega) _) _ Try.underlying74 rfl 3 sizeTok rfl ?_)
      | (show wpList _ _ _ (⟨none, .store _ (.tmp 4) (.tmp 28), _, _, _, _⟩ :: _) _ _; refine wpList_store_blk rfl 74 (.tmp 4) (.tmp 28) rfl _ _ rfl rfl (((hb1.ext hx2).grown hg3 (by intro k; have := Option.some.inj k; have := hb1.lt; omega)).far (p := ⟨g, 0, none⟩) (by show g1 ≠ g; omega) _) 3 sizeTok rfl rfl (tok_oneA (t1, t2, t3)) ?_; intro w5 hb5 hg5))
    have hu4 : Upd (fun b => b = g) w (w3.setCell ⟨g, 0, none⟩ (.slice A2 (n - 1) (c - 1))) := Upd.setCell (S := fun b => b = g) (upd_of_ext hx3) (p := ⟨g, 0, none⟩) rfl _
    have hbg4 : Blk (w3.setCell ⟨g, 0, none⟩ (.slice A2 (n - 1) (c - 1))) g T #[.slice A2 (n - 1) (c - 1)] := by simpa using hbg3.set_ 0 (.slice A2 (n - 1) (c - 1))
    have hu5 := hu4.trans (upd_grown hg5) (fun x k => .inr (by have := Option.some.inj k; omega))
    have hbg5 := hbg4.grown hg5 (by intro k; have := Option.some.inj k; omega)
    rw [HA2.out] at hbg5
    refine ret_cell_tmp rfl rfl _ rfl hb5 _ Try.underlying74 rfl 3 sizeTok rfl ⟨rfl, HK.out _ hu5 hbg5, hu5⟩
set_option maxHeartbeats 1000000 in
theorem listFn_any (g B : Nat) (T : TypeId) (b : Bool) (L : List Tok) (w : World) (h : ListIn T g B w L) (hB : B ≤ w.heap.size) :
    Calls Try.prog 30 #[.bool b, .pointer (some ⟨g, 0, none⟩)] w fun e w' => e = .returned (.tuple #[.agg (tokv (listNext b L).1).toArray, .int .i64 (listNext b L).2.1]) ∧ ListIn T g B w' (listNext b L).2.2 ∧ Upd (fun b => b = g) w w' := by
  have h' := h
  obtain ⟨⟨A, n, c, h1, h2, h3, h4, h5⟩, h6, h7⟩ := h
  have h2' := h2
  have hcell := (h1.cell 0).trans (show (#[Value.slice A n c] : Array Value)[0]? = some (.slice A n c) from rfl)
  cases L with
  | nil =>
    have hn : n = 0 := by simpa using h3.symm
    subst hn
    have HBT : Hid (Try.prog.built 74 [] = some (tokv (0, 0, 0)).toArray) := hid_ (by kernel_rfl)
    have HH := hid_ h'
    clear h' h1 h2 h2' h3 h5 h7
    go_enter Try.func30, Try.ntmps30
    go_wp2_with (first
      | (show wpList _ _ _ (⟨some 3, _, _, _, _, _⟩ :: _) _ _; refine wpList_alloc_abs' rfl (some 3) rfl 74 rfl _ zeroTok ?_; intro w1 g1 hb1 hx1 hg1; have hcell1 := (hx1.cell (p := ⟨g, 0, none⟩) (by show g < _; omega)).trans hcell)
      | (show wpList _ _ _ (⟨some 9, _, _, _, _, _⟩ :: _) _ _; refine wpList_build0 rfl 74 rfl _ HBT.out ?_)
      | (show wpList _ _ _ (⟨none, .store _ (.tmp 3) (.tmp 9), _, _, _, _⟩ :: _) _ _; refine wpList_store_blk rfl 74 (.tmp 3) (.tmp 9) rfl _ _ rfl rfl hb1 3 sizeTok rfl rfl (tok_oneA _) ?_; intro w2 hb2 hg2))
    have hx2 := hx1.grown hg2 hg1
    refine ret_cell_tmp rfl rfl _ rfl hb2 _ Try.underlying74 rfl 3 sizeTok rfl ⟨rfl, HH.out.keep (upd_of_ext hx2), upd_of_ext hx2⟩
  | cons t r =>
    obtain ⟨t1, t2, t3⟩ := t
    have h3' : n = r.length + 1 := by simpa using h3.symm
    have hn1 : 1 ≤ n := by omega
    have hn0 : ((n : Int) == 0) = false := by simp; omega
    obtain ⟨ad, rfl, hab, hca⟩ := h2'.part (k := 0) hn1
    rw [show ((toks ((t1, t2, t3) :: r)).drop (0 * 3)).take 3 = tokv (t1, t2, t3) by simp [toks, tokv]] at hca
    have HCA := hid_ hca
    have HK := hid_ (fun W' => ListIn.next (T := T) (W' := W') h2 h3 h4 h5 h6 h7)
    have HB1 := hid_ h1
    obtain ⟨A2, hA2⟩ : ∃ A2, A2 = (if c = 1 then some ad else (some ad).map (·.add 3)) := ⟨_, rfl⟩
    have HA2 := hid_ hA2
    have hgw : g < w.heap.size := by omega
    clear h' h1 h2 h2' h3 h5 h7 hca h3' hA2
    go_enter Try.func30, Try.ntmps30
    go_wp2_with (first
      | (show wpList _ _ _ (⟨some 3, _, _, _, _, _⟩ :: _) _ _; refine wpList_alloc_abs' rfl (some 3) rfl 74 rfl _ zeroTok ?_; intro w1 g1 hb1 hx1 hg1; have hcell1 := (hx1.cell (p := ⟨g, 0, none⟩) (by show g < _; omega)).trans hcell; have HC1 : Hid (CellsAt w1 (ad.add (0 * 3)) (tokv (t1, t2, t3))) := hid_ (fun j u hu => (hx1.cell (p := (ad.add (0 * 3)).add j) (by rw [block_of_add, block_of_add]; exact hab)).trans (HCA.out j u hu)))
      | (show wpList _ _ _ (⟨some 11, _, _, _, _, _⟩ :: _) _ _; refine wl_run rfl (.pointer (some (ad.add (0 * 3)))) (ex_ixSl Try.underlying22 sizeTok rfl rfl rfl (by omega)) ?_)
      | (show wpList _ _ _ (⟨some 12, _, _, _, _, _⟩ :: _) _ _; refine wpList_load_any (by rfl) 74 (.tmp 11) rfl (ad.add (0 * 3)) rfl (tokv (t1, t2, t3)) _ HC1.out Try.underlying74 rfl size74 ?_)
      | (show wpList _ _ _ (⟨some 5, _, _, _, _, _⟩ :: _) _ _; refine wpList_alloc_abs' rfl (some 5) rfl 74 rfl _ zeroTok ?_; intro w2 g2 hb2 hx2 hg2)
      | (show wpList _ _ _ (⟨none, .store _ (.tmp 5) (.tmp 12), _, _, _, _⟩ :: _) _ _; refine wpList_store_blk rfl 74 (.tmp 5) (.tmp 12) rfl _ _ rfl rfl hb2 3 sizeTok rfl rfl (tok_oneA (t1, t2, t3)) ?_; intro w3 hb3 hg3; have hx3 : Ext w w3 := (hx1.trans hx2).grown hg3 (by have := hx1.size; omega); have hbg3 := HB1.out.ext hx3; have hcell3 := (hx3.cell (p := ⟨g, 0, none⟩) (by show g < _; omega)).trans hcell; have hfz3 := hbg3.frozen 0)
      | (show wpList _ _ _ (⟨some 14, _, _, _, _, _⟩ :: _) _ _; refine wl_run rfl (.slice A2 (n - 1) (c - 1)) (by rw [HA2.out]; exact ex_slice1 rfl rfl hn1 h4) ?_)
      | (show wpList _ _ _ (⟨some 15, _, _, _, _, _⟩ :: _) _ _; refine wpList_load_blk rfl 74 (.tmp 5) rfl g2 rfl (hb3.far (p := ⟨g, 0, none⟩) (by show g2 ≠ g; have := hx1.size; omega) _) _ Try.underlying74 rfl 3 sizeTok rfl ?_)
      | (show wpList _ _ _ (⟨none, .store _ (.tmp 3) (.tmp 15), _, _, _, _⟩ :: _) _ _; refine wpList_store_blk rfl 74 (.tmp 3) (.tmp 15) rfl _ _ rfl rfl (((hb1.ext hx2).grown hg3 (by intro k; have := Option.some.inj k; have := hb1.lt; omega)).far (p := ⟨g, 0, none⟩) (by show g1 ≠ g; omega) _) 3 sizeTok rfl rfl (tok_oneA (t1, t2, t3)) ?_; intro w5 hb5 hg5))
    have hu4 : Upd (fun b => b = g) w (w3.setCell ⟨g, 0, none⟩ (.slice A2 (n - 1) (c - 1))) := Upd.setCell (S := fun b => b = g) (upd_of_ext hx3) (p := ⟨g, 0, none⟩) rfl _
    have hbg4 : Blk (w3.setCell ⟨g, 0, none⟩ (.slice A2 (n - 1) (c - 1))) g T #[.slice A2 (n - 1) (c - 1)] := by simpa using hbg3.set_ 0 (.slice A2 (n - 1) (c - 1))
    have hu5 := hu4.trans (upd_grown hg5) (fun x k => .inr (by have := Option.some.inj k; omega))
    have hbg5 := hbg4.grown hg5 (by intro k; have := Option.some.inj k; omega)
    rw [HA2.out] at hbg5
    refine ret_cell_tmp rfl rfl _ rfl hb5 _ Try.underlying74 rfl 3 sizeTok rfl ⟨rfl, HK.out _ hu5 hbg5, hu5⟩
/-- the list's method, and the closure, as sources -/
theorem listSrc (g B : Nat) (T : TypeId) (hg : g < B) : Src 144 #[.pointer (some ⟨g, 0, none⟩)] #[] B (fun b => b = g) (ListIn T g B) listNext :=
  ⟨fun b e => by omega, fun b s W h hB => by simpa using listToken_any g B T b s W h hB, fun s W W' h hu => h.keep hu, fun b s W h h0 => by
    cases s with
    | nil => simp [listNext] at h0
    | cons t r => exact h.2.2 t (by simp)⟩
theorem listFnSrc (g B : Nat) (T : TypeId) (hg : g < B) : Src 30 #[] #[.pointer (some ⟨g, 0, none⟩)] B (fun b => b = g) (ListIn T g B) listNext :=
  ⟨fun b e => by omega, fun b s W h hB => by simpa using listFn_any g B T b s W h hB, fun s W W' h hu => h.keep hu, fun b s W h h0 => by
    cases s with
    | nil => simp [listNext] at h0
    | cons t r => exact h.2.2 t (by simp)⟩
end Go.Proofs.Ytkfdkkhhkciocaa
/- run.From over any source, all ways; run.Block and RunBlock of the reference. -/
namespace Go.Proofs.Ytkfdkkhhkciocaa
set_option linter.unusedVariables false
set_option linter.unusedSimpArgs false
open Go.RowKit
section
variable {σ : Type} {f : FuncId} {B : Nat} {S : Nat → Prop} {Inv : World → σ → Prop} {next : Bool → σ → Tok × Int × σ}
theorem from_any (before : Int) (hb1 : -2047 ≤ before) (hb2 : before ≤ 2047) {ty : TypeId} {v recv : Value} (hm : Meth Try.prog ty v "Token" f recv) (C : Src f #[recv] #[] B S Inv next) (w : World) (s : σ) (hI : Inv w s) (hB : B = w.heap.size) :
    Calls Try.prog 27 #[.int .i64 before, .iface ty v] w (FromIs S Inv w (blkZ next before s)) := by
  rcases hq : next true s with ⟨t, x, s'⟩
  by_cases hx : x = 0
  · subst hx
    cases hok : tokOk1 before t with
    | false => rw [blkZ_bad hq hok]; exact from_bad before hb1 hb2 hm C w s hI hB hq hok
    | true => exact from_go before hb1 hb2 hm C w s hI hB hq hok
  · rw [blkZ_err hq hx]; exact from_err before hm C w s hI hB hq hx
end
/-- what Block answers: the errno, the block, how many tokens -/
def blockZ (before : Int) (L : List Tok) : Int × List Int × Nat :=
  if inB before (-2047) 2047 = true then ((blkZ listNext before L).1, (blkZ listNext before L).2.1, (blkZ listNext before L).2.2.1.length) else (1, List.replicate 64 0, 0)
theorem goesTok : Goes Try.prog 144 := ⟨_, Try.func144, by kernel_rfl, by kernel_rfl⟩
theorem methTok (a : Addr) : Meth Try.prog 68 (.pointer (some a)) "Token" 144 (.pointer (some a)) := ⟨fun w => by kernel_rfl, goesTok⟩
theorem goesFn : Goes Try.prog 30 := ⟨_, Try.func30, by kernel_rfl, by kernel_rfl⟩
theorem built70 (A : Option Addr) (n c : Nat) : Try.prog.built 70 [(0, .slice A n c)] = some #[.slice A n c] := by kernel_rfl
attribute [local irreducible] zfrom tokensZ accT backR
theorem goB_len {σ : Type} (next : σ → Tok × Int × σ) : ∀ (n i : Nat) (z : List Int) (all : List Tok) (s : σ), 64 - i = n → i ≤ 64 → z.length = 64 → all.length ≤ i → (goB next i z all s).2.1.length = 64 ∧ (goB next i z all s).2.2.1.length ≤ 64 := by
  intro n
  induction n using Nat.strongRecOn with
  | ind n ih =>
    intro i z all s hn hi hz hl
    by_cases hlt : i < 64
    · rcases hq : next s with ⟨t, e, s'⟩
      by_cases he : e = 0
      · subst he
        cases ht : tokOk t with
        | false => rw [goB_bad hlt hq ht]; exact ⟨hz, by dsimp only; omega⟩
        | true =>
          by_cases h1 : t.1 = 0
          · rw [goB_end hlt hq ht h1]; exact ⟨hz, by dsimp only; simp; omega⟩
          · by_cases hf : 64 < i + (t.1 / 16).toNat + 1
            · rw [goB_far hlt hq ht h1 hf]; exact ⟨hz, by dsimp only; omega⟩
            · rw [goB_step hlt hq ht h1 hf]
              exact ih _ (by omega) _ _ _ _ rfl (by omega) (by simpa using hz) (by simp; omega)
      · rw [goB_err hlt hq he]; exact ⟨hz, by dsimp only; omega⟩
    · rw [goB_done hlt]; exact ⟨hz, by dsimp only; omega⟩
theorem blkZ_len {σ : Type} (next : Bool → σ → Tok × Int × σ) (before : Int) (s : σ) : (blkZ next before s).2.1.length = 64 ∧ (blkZ next before s).2.2.1.length ≤ 64 := by
  rcases hq : next true s with ⟨t, x, s'⟩
  by_cases hx : x = 0
  · subst hx
    cases hok : tokOk1 before t with
    | false => rw [blkZ_bad hq hok]; exact ⟨by simp, by simp⟩
    | true =>
      rw [blkZ_fin hq hok]
      have h := goB_len (next false) 63 1 ((List.replicate 64 0).set 0 (before + (backR t.2.1 t.2.2).1)) [t] s' (by omega) (by omega) (by simp) (by simp)
      generalize goB (next false) 1 ((List.replicate 64 0).set 0 (before + (backR t.2.1 t.2.2).1)) [t] s' = g at *
      obtain ⟨e, z, all, q⟩ := g
      dsimp only at h
      by_cases he : e = 0
      · subst he
        by_cases ht : tokensZ before z = all
        · rw [finZ_good ht]; exact ⟨zfrom_len _ _, h.2⟩
        · rw [finZ_ne ht]; exact ⟨by simp, by simp⟩
      · rw [finZ_err he]; exact ⟨by simp, by simp⟩
  · rw [blkZ_err hq hx]; exact ⟨by simp, by simp⟩
theorem blockZ_len (before : Int) (L : List Tok) : (blockZ before L).2.1.length = 64 ∧ (blockZ before L).2.2 ≤ 64 := by
  unfold blockZ
  split
  · exact blkZ_len _ _ _
  · simp
attribute [local irreducible] blkZ bv blockZ
set_option maxRecDepth 20000 in
set_option maxHeartbeats 2000000 in
theorem block_any (before : Int) (L : List Tok) (hI : ∀ t ∈ L, I64 t.1 ∧ I64 t.2.1 ∧ I64 t.2.2) (A : Option Addr) (c n : Nat) (hn : L.length = n) (w : World) (hs : SL w 3 (.slice A n c) n (toks L)) :
    Calls Try.prog 8 #[.int .i64 before, .slice A n c] w fun e w' => e = .returned (.tuple #[.agg (bv (blockZ before L).2.1), .int .i64 ((blockZ before L).2.2 : Int), .int .i64 (blockZ before L).1]) ∧ Ext w w' := by
  have HIC := hid_ (fun W => isCoef_any before W)
  have HAL := hid_ (show (Try.prog.info? 24).bind (·.zero) = some (.agg (bv (List.replicate 64 0))) from zero48)
  have HBT := hid_ (show Try.prog.built 24 [] = some (bv (List.replicate 64 0)) from built48)
  have HO := hid_ (bv_one (List.replicate 64 0))
  have HS := hid_ (show (bv (List.replicate 64 0)).size = 64 by rw [bv_size]; rfl)
  have hz0 := hid_ (show (Value.agg (bv (List.replicate 64 0))).cells.size = 64 by rw [show (Value.agg (bv (List.replicate 64 0))).cells = bv (List.replicate 64 0) from rfl, bv_size]; rfl)
  have HBU := hid_ (built70 A n c)
  have HN := hid_ hn
  have hs' := hs
  obtain ⟨A', c', he, hnc, hc2, -, hAd⟩ := hs'
  injection he with he1 he2 he3
  subst he1 he3
  have HAd : Hid (∀ ad, A = some ad → 0 < n → ad.block < w.heap.size) := hid_ (fun ad e h0 => by obtain ⟨a, e1, e2, -⟩ := hAd h0; rw [e] at e1; injection e1 with e1; rw [e1]; exact e2)
  clear hAd hn
  cases hin : inB before (-2047) 2047 with
  | false =>
    have hR : blockZ before L = (1, List.replicate 64 0, 0) := by unfold blockZ; rw [if_neg (by rw [hin]; simp)]
    rw [hR]
    rw [hin] at HIC
    clear hR hin
    dsimp only
    generalize bv (List.replicate 64 0) = cz at *
    go_enter Try.func8, Try.ntmps8
    go_wp2_with (first
      | (show wpList _ _ _ (⟨some 4, _, _, _, _, _⟩ :: _) _ _; refine wpList_alloc_abs' rfl (some 4) rfl 24 rfl _ HAL.out ?_; intro w1 g1 hb1 hx1 hg1)
      | (go_at_call 26; (with_reducible refine (HIC.out _).mono ?_); rintro e w' ⟨rfl, rfl⟩)
      | (show wpList _ _ _ (⟨some 13, _, _, _, _, _⟩ :: _) _ _; refine wpList_build0 rfl 24 rfl _ HBT.out ?_)
      | (show wpList _ _ _ (⟨none, .store _ (.tmp 4) (.tmp 13), _, _, _, _⟩ :: _) _ _; refine wpList_store_blk rfl 24 (.tmp 4) (.tmp 13) rfl _ _ rfl rfl hb1 64 size48 HS.out hz0.out HO.out ?_; intro w2 hb2 hg2))
    refine ret_cell_tmp2 rfl rfl _ rfl hb2 _ Try.underlying24 rfl 64 size48 HS.out ⟨rfl, hx1.grown hg2 hg1⟩
  | true =>
    obtain ⟨hbf1, hbf2⟩ := inB_iff.1 hin
    rw [hin] at HIC
    have hR : blockZ before L = ((blkZ listNext before L).1, (blkZ listNext before L).2.1, (blkZ listNext before L).2.2.1.length) := by unfold blockZ; rw [if_pos hin]
    rw [hR]
    obtain ⟨hl64, hl2⟩ := blkZ_len listNext before L
    have HF := hid_ (fun W g (hl : ListIn 70 g W.heap.size W L) (hg : g < W.heap.size) => from_any before hbf1 hbf2 (methTok ⟨g, 0, none⟩) (listSrc g W.heap.size 70 hg) W L hl rfl)
    unfold FromIs at HF
    clear hR hin hbf1 hbf2
    dsimp only
    generalize blkZ listNext before L = R at *
    obtain ⟨e0, z0, L0, q0⟩ := R
    dsimp only at HF hl64 hl2 ⊢
    have HLI : Hid (∀ W g, Blk W g 70 #[.slice A n c] → Ext w W → w.heap.size ≤ g → ListIn 70 g W.heap.size W L) := hid_ (fun W g hb hx hg => ⟨⟨A, n, c, hb, hs.ext hx, HN.out, hnc, fun ad e h0 => by
      have h1 := HAd.out ad e h0
      have h2 := hx.size
      omega⟩, hb.lt, hI⟩)
    have HS1 := hid_ (show (bv z0).size = 64 by rw [bv_size]; exact hl64)
    have HO1 := hid_ (bv_one z0)
    generalize bv z0 = bz at *
    generalize L0.length = n0 at *
    clear hl64 hs hI
    generalize bv (List.replicate 64 0) = cz at *
    go_enter Try.func8, Try.ntmps8
    go_wp2_with (first
      | (show wpList _ _ _ (⟨some 4, _, _, _, _, _⟩ :: _) _ _; refine wpList_alloc_abs' rfl (some 4) rfl 24 rfl _ HAL.out ?_; intro w1 g1 hb1 hx1 hg1)
      | (go_at_call 26; (with_reducible refine (HIC.out _).mono ?_); rintro e w' ⟨rfl, rfl⟩)
      | (show wpList _ _ _ (⟨some 17, _, _, _, _, _⟩ :: _) _ _; refine wpList_build_abs rfl 70 #[(0, .tmp 16)] rfl #[.slice A n c] (by simpa [Act.eval] using HBU.out) ?_)
      | (show wpList _ _ _ (⟨some 18, _, _, _, _, _⟩ :: _) _ _; refine wpList_box_abs rfl 70 (.tmp 17) rfl #[.slice A n c] rfl ?_; intro w2 g hbg hx2 hg)
      | (go_at_call 27; (with_reducible refine (HF.out w2 g (HLI.out w2 g hbg (hx1.trans hx2) (by have := hx1.size; omega)) hbg.lt).mono ?_); rintro e w3 ⟨D, d, rfl, -, -, hu3⟩)
      | (show wpList _ _ _ (⟨some 7, _, _, _, _, _⟩ :: _) _ _; refine wpList_alloc_abs' rfl (some 7) rfl 24 rfl _ HAL.out ?_; intro w4 g4 hb4 hx4 hg4)
      | (show wpList _ _ _ (⟨none, .store _ (.tmp 7) (.tmp 21), _, _, _, _⟩ :: _) _ _; refine wpList_store_blk rfl 24 (.tmp 7) (.tmp 21) rfl _ _ rfl rfl hb4 64 size48 HS1.out hz0.out HO1.out ?_; intro w5 hb5 hg5; have hb1' : Blk w5 g1 24 (Value.agg cz).cells := (((hu3.blk (hb1.ext hx2) (by have := hb1.lt; omega)).ext hx4).grown hg5 (by intro k; have := Option.some.inj k; have := hb1.lt; have := hx2.size; have := hu3.size; omega)))
      | (show wpList _ _ _ (⟨some 24, _, _, _, _, _⟩ :: _) _ _; refine wpList_load_blk rfl 24 (.tmp 7) rfl _ rfl hb5 _ Try.underlying24 rfl 64 size48 HS1.out ?_)
      | (show wpList _ _ _ (⟨none, .store _ (.tmp 4) (.tmp 24), _, _, _, _⟩ :: _) _ _; refine wpList_store_blk rfl 24 (.tmp 4) (.tmp 24) rfl _ _ rfl rfl hb1' 64 size48 HS1.out hz0.out HO1.out ?_; intro w6 hb6 hg6))
    refine ret_cell_tmp2 rfl rfl _ rfl hb6 _ Try.underlying24 rfl 64 size48 HS1.out ⟨rfl, ?_⟩
    have hx3 := hu3.ext (hx1.trans hx2) (fun x k => by have := hx1.size; omega)
    exact ((hx3.trans hx4).grown hg5 (by have := hx3.size; omega)).grown hg6 hg1
set_option maxRecDepth 20000 in
set_option maxHeartbeats 2000000 in
theorem rblock_any (before : Int) (L : List Tok) (hI : ∀ t ∈ L, I64 t.1 ∧ I64 t.2.1 ∧ I64 t.2.2) (A : Option Addr) (c n : Nat) (hn : L.length = n) (w : World) (hs : SL w 3 (.slice A n c) n (toks L)) :
    Calls Try.prog 9 #[.int .i64 before, .slice A n c] w fun e w' => e = .returned (.tuple #[.agg (bv (blockZ before L).2.1), .int .i64 ((blockZ before L).2.2 : Int), .int .i64 (blockZ before L).1]) ∧ Ext w w' := by
  have hmf : ∀ (fn : Fn) (first cap : Array Value) (w : World), (Instr.makeFunc fn first cap).run Try.prog w = .ok (.func fn first cap) w := fun _ _ _ _ => rfl
  have HIC := hid_ (fun W => outside_any before (-2047) 2047 W)
  have HAL := hid_ (show (Try.prog.info? 24).bind (·.zero) = some (.agg (bv (List.replicate 64 0))) from zero48)
  have HBT := hid_ (show Try.prog.built 24 [] = some (bv (List.replicate 64 0)) from built48)
  have HO := hid_ (bv_one (List.replicate 64 0))
  have HS := hid_ (show (bv (List.replicate 64 0)).size = 64 by rw [bv_size]; rfl)
  have hz0 := hid_ (show (Value.agg (bv (List.replicate 64 0))).cells.size = 64 by rw [show (Value.agg (bv (List.replicate 64 0))).cells = bv (List.replicate 64 0) from rfl, bv_size]; rfl)
  have HN := hid_ hn
  have hs' := hs
  obtain ⟨A', c', he, hnc, hc2, -, hAd⟩ := hs'
  injection he with he1 he2 he3
  subst he1 he3
  have HAd : Hid (∀ ad, A = some ad → 0 < n → ad.block < w.heap.size) := hid_ (fun ad e h0 => by obtain ⟨a, e1, e2, -⟩ := hAd h0; rw [e] at e1; injection e1 with e1; rw [e1]; exact e2)
  clear hAd hn
  cases hin : inB before (-2047) 2047 with
  | false =>
    have hR : blockZ before L = (1, List.replicate 64 0, 0) := by unfold blockZ; rw [if_neg (by rw [hin]; simp)]
    rw [hR]
    rw [hin] at HIC
    clear hR hin
    dsimp only
    generalize bv (List.replicate 64 0) = cz at *
    go_enter Try.func9, Try.ntmps9
    go_wp2_with (first
      | (show wpList _ _ _ (⟨some 3, _, _, _, _, _⟩ :: _) _ _; refine wpList_box_abs rfl 22 (.tmp 1) rfl #[.slice A n c] rfl ?_; intro w0 g0 hb0 hx0 hg0)
      | (show wpList _ _ _ (⟨some 4, _, _, _, _, _⟩ :: _) _ _; refine wpList_alloc_abs' rfl (some 4) rfl 24 rfl _ HAL.out ?_; intro w1 g1 hb1 hx1 hg1)
      | (go_at_call 28; (with_reducible refine (HIC.out _).mono ?_); rintro e w' ⟨rfl, rfl⟩)
      | (show wpList _ _ _ (⟨some 9, _, _, _, _, _⟩ :: _) _ _; refine wpList_build0 rfl 24 rfl _ HBT.out ?_)
      | (show wpList _ _ _ (⟨none, .store _ (.tmp 4) (.tmp 9), _, _, _, _⟩ :: _) _ _; refine wpList_store_blk rfl 24 (.tmp 4) (.tmp 9) rfl _ _ rfl rfl hb1 64 size48 HS.out hz0.out HO.out ?_; intro w2 hb2 hg2))
    refine ret_cell_tmp2 rfl rfl _ rfl hb2 _ Try.underlying24 rfl 64 size48 HS.out ⟨rfl, (hx0.trans hx1).grown hg2 (by have := hx0.size; omega)⟩
  | true =>
    obtain ⟨hbf1, hbf2⟩ := inB_iff.1 hin
    rw [hin] at HIC
    have hR : blockZ before L = ((blkZ listNext before L).1, (blkZ listNext before L).2.1, (blkZ listNext before L).2.2.1.length) := by unfold blockZ; rw [if_pos hin]
    rw [hR]
    obtain ⟨hl64, hl2⟩ := blkZ_len listNext before L
    have HF := hid_ (fun W g (hl : ListIn 22 g W.heap.size W L) (hg : g < W.heap.size) => blockOf_any before hbf1 hbf2 goesFn (listFnSrc g W.heap.size 22 hg) W L hl rfl)
    unfold BlkIs at HF
    clear hR hin hbf1 hbf2
    dsimp only
    generalize blkZ listNext before L = R at *
    obtain ⟨e0, z0, L0, q0⟩ := R
    dsimp only at HF hl64 hl2 ⊢
    have HLI : Hid (∀ W W' g, Blk W g 22 #[.slice A n c] → Ext w W → w.heap.size ≤ g → Ext W W' → ListIn 22 g W'.heap.size W' L) := hid_ (fun W W' g hb hx hg hx' => ⟨⟨A, n, c, hb.ext hx', (hs.ext hx).ext hx', HN.out, hnc, fun ad e h0 => by
      have h1 := HAd.out ad e h0
      have h2 := (hx.trans hx').size
      omega⟩, by have := hb.lt; have := hx'.size; omega, hI⟩)
    have HS1 := hid_ (show (bv z0).size = 64 by rw [bv_size]; exact hl64)
    have HO1 := hid_ (bv_one z0)
    generalize bv z0 = bz at *
    generalize L0.length = n0 at *
    clear hl64 hs hI
    generalize bv (List.replicate 64 0) = cz at *
    go_enter Try.func9, Try.ntmps9
    go_wp2_with (first
      | (show wpList _ _ _ (⟨some 3, _, _, _, _, _⟩ :: _) _ _; refine wpList_box_abs rfl 22 (.tmp 1) rfl #[.slice A n c] rfl ?_; intro w0 g0 hb0 hx0 hg0)
      | (show wpList _ _ _ (⟨some 4, _, _, _, _, _⟩ :: _) _ _; refine wpList_alloc_abs' rfl (some 4) rfl 24 rfl _ HAL.out ?_; intro w1 g1 hb1 hx1 hg1)
      | (go_at_call 28; (with_reducible refine (HIC.out _).mono ?_); rintro e w' ⟨rfl, rfl⟩)
      | (go_at_call 29; (with_reducible refine (HF.out w1 g0 (HLI.out w0 w1 g0 hb0 hx0 hg0 hx1) (by have := hb0.lt; have := hx1.size; omega)).mono ?_); rintro e w3 ⟨rfl, -, hu3⟩; have hb1' : Blk w3 g1 24 (Value.agg cz).cells := hu3.blk hb1 (by have := hb0.lt; omega))
      | (show wpList _ _ _ (⟨none, .store _ (.tmp 4) (.tmp 13), _, _, _, _⟩ :: _) _ _; refine wpList_store_blk rfl 24 (.tmp 4) (.tmp 13) rfl _ _ rfl rfl hb1' 64 size48 HS1.out hz0.out HO1.out ?_; intro w6 hb6 hg6))
    refine ret_cell_tmp2 rfl rfl _ rfl hb6 _ Try.underlying24 rfl 64 size48 HS1.out ⟨rfl, ?_⟩
    have hx3 := hu3.ext (hx0.trans hx1) (fun x k => by omega)
    exact hx3.grown hg6 (by have := hx0.size; omega)
end Go.Proofs.Ytkfdkkhhkciocaa
/- A parameter that is a slice of tokens. -/
namespace Go.Proofs.Ytkfdkkhhkciocaa
set_option linter.unusedVariables false
set_option linter.unusedSimpArgs false
open Go.RowKit Go.ChangeShapes Go.WideShapes Go.ChangeAt
theorem cellsTok : Try.prog.cellsOf 74 = 3 := by kernel_rfl
theorem toks_of_ints : ∀ (n : Nat) (zs : List Int), zs.length = n * 3 → (∀ z ∈ zs, inI64 z) → ∃ L : List Tok, L.length = n ∧ toks L = ints zs ∧ ∀ t ∈ L, I64 t.1 ∧ I64 t.2.1 ∧ I64 t.2.2
  | 0, zs, h, _ => by
    have : zs = [] := List.eq_nil_of_length_eq_zero (by omega)
    subst this
    exact ⟨[], rfl, rfl, by simp⟩
  | n + 1, zs, h, hz => by
    match zs, h with
    | a :: b :: c :: r, h =>
      obtain ⟨L, h1, h2, h3⟩ := toks_of_ints n r (by simp at h; omega) (fun z hz' => hz z (by simp [hz']))
      refine ⟨(a, b, c) :: L, by simp [h1], by rw [show toks ((a, b, c) :: L) = tokv (a, b, c) ++ toks L by simp [toks], h2]; simp [tokv, ints], fun t ht => ?_⟩
      rcases List.mem_cons.1 ht with rfl | ht
      · exact ⟨hz a (by simp), hz b (by simp), hz c (by simp)⟩
      · exact h3 t ht
    | [a, b], h => simp at h; omega
    | [a], h => simp at h; omega
    | [], h => simp at h
section
variable {H : Type} {enc : TypeId × Value → H} {w : World} {base : Nat} {spare : Nat → Bool} {held : Bool}
theorem trod_struct3 {P : Program} {t : TypeId} {f0 f1 f2 : Field} {fuel : Nat} {cs : List Value} {x : DataW H × List MemPlace} (ht : P.underlying t = some (.struct #[f0, f1, f2])) (h : DataW.trod enc P w base spare held fuel t cs = some x) :
    ∃ y0 y1 y2 n, cs.length = P.cellsOf t ∧ DataW.trod enc P w base spare held n f0.type ((cs.drop f0.offset).take (P.cellsOf f0.type)) = some y0 ∧
      DataW.trod enc P w base spare held n f1.type ((cs.drop f1.offset).take (P.cellsOf f1.type)) = some y1 ∧ DataW.trod enc P w base spare held n f2.type ((cs.drop f2.offset).take (P.cellsOf f2.type)) = some y2 := by
  obtain ⟨xs, n, _, rfl, hl, hlen, hf⟩ := DataW.trod_struct ht h
  match xs, hlen with
  | [y0, y1, y2], _ => exact ⟨y0, y1, y2, n, hl, by simpa using hf 0 f0 rfl, by simpa using hf 1 f1 rfl, by simpa using hf 2 f2 rfl⟩
theorem trod_tok {fuel : Nat} {cs : List Value} {x : DataW H × List MemPlace} (h : DataW.trod enc Try.prog w base spare held fuel 74 cs = some x) : ∃ zs : List Int, zs.length = 3 ∧ cs = ints zs ∧ ∀ z ∈ zs, inI64 z := by
  obtain ⟨y0, y1, y2, n, hl, h0, h1, h2⟩ := trod_struct3 Try.underlying74 h
  rw [cellsTok] at hl
  dsimp only at h0 h1 h2
  rw [cellsInt] at h0 h1 h2
  obtain ⟨a, e0, ha2⟩ := trod_int_cell Try.underlying3 h0
  obtain ⟨b, e1, hb2⟩ := trod_int_cell Try.underlying3 h1
  obtain ⟨c, e2, hc2⟩ := trod_int_cell Try.underlying3 h2
  clear h h0 h1 h2
  match cs, hl with
  | [u, v, y], _ =>
    simp at e0 e1 e2
    subst e0 e1 e2
    exact ⟨[a, b, c], rfl, rfl, by simp [ha2, hb2, hc2]⟩
set_option maxRecDepth 20000 in
theorem open_tokens_v {b0 : Nat} {r : Reach} {v : Value} {d : DataW H} {p : List MemPlace} (hv : Value.okWide Try.prog w r b0 22 v) (h : DataW.Trod enc Try.prog w base spare held 22 v d p) :
    ∃ L : List Tok, SL w 3 v L.length (toks L) ∧ ∀ t ∈ L, I64 t.1 ∧ I64 t.2.1 ∧ I64 t.2.2 := by
  obtain ⟨fuel, hf⟩ := h
  obtain ⟨u, n, zs, hcs, hl, hs, hz⟩ := open_multi (sz := 3) Try.underlying22 cellsTok (by decide) (fun fuel cs x hx => trod_tok hx) hf
  have : v = u := slice_value Try.underlying22 hv hcs (by obtain ⟨A, c, rfl, -⟩ := hs; simp)
  subst this
  obtain ⟨L, h1, h2, h3⟩ := toks_of_ints n zs hl hz
  exact ⟨L, by rw [h1, h2]; exact hs, h3⟩
end
end Go.Proofs.Ytkfdkkhhkciocaa
