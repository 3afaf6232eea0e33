/- Contracts for the law ScanEncodesCard, part 4: what the functions that it reaches answer, for all arguments that the theorems name. -/
import Derived.Test.YtgmddhljgfbibaaDoorMScanEncodesCard3
import Derived.Deep.QuietTactic
import Derived.Test.YtgmddhljgfbibaaDoorMScanEncodesCard1
/- What From and BlockOf make of a source of tokens, in plain words. -/
namespace Go.Proofs.YtgmddhljgfbibaaDoor
set_option linter.unusedVariables false
set_option linter.unusedSimpArgs false
open Go.RowKit
theorem zigAt_inj : ∀ i j : Fin 64, zigAt i.val = zigAt j.val → i = j := by decide +kernel
theorem zfrom_get (z : List Int) : ∀ (k i : Nat), k ≤ 64 → i < k → (zfrom z k).getD (zigAt i).toNat 0 = z.getD i 0 := by
  intro k
  induction k with
  | zero => intro i _ h; omega
  | succ k ih =>
    intro i hk hi
    rw [zfrom_succ]
    have bi := zigAt_bd i (by omega)
    have bk := zigAt_bd k (by omega)
    have hl := zfrom_len z k
    by_cases e : i = k
    · subst e
      simp [List.getD_eq_getElem?_getD, List.getElem?_set, hl, show (zigAt i).toNat < 64 by omega]
    · have hne : (zigAt k).toNat ≠ (zigAt i).toNat := by
        intro h
        have : zigAt k = zigAt i := by omega
        have := zigAt_inj ⟨k, by omega⟩ ⟨i, by omega⟩ this
        exact e (by simpa using (congrArg Fin.val this).symm)
      have := ih i (by omega) (by omega)
      simpa [List.getD_eq_getElem?_getD, List.getElem?_set, hne] using this
theorem zto_zfrom (z : List Int) (hz : z.length = 64) : zto (zfrom z 64) = z := by
  refine List.ext_getElem (by rw [zto_len, hz]) fun i h1 h2 => ?_
  have := zfrom_get z 64 i (by omega) (by rw [zto_len] at h1; exact h1)
  simp only [zto, List.getElem_map, List.getElem_range]
  rw [this]
  simp [List.getD_eq_getElem?_getD, h2]
theorem zfrom_all (z : List Int) (P : Int → Prop) (h0 : P 0) (h : ∀ x ∈ z, P x) : ∀ k, ∀ x ∈ zfrom z k, P x := by
  intro k
  induction k with
  | zero => intro x hx; simp [zfrom] at hx; rw [hx]; exact h0
  | succ k ih =>
    intro x hx
    rw [zfrom_succ] at hx
    rcases List.mem_or_eq_of_mem_set hx with h1 | h1
    · exact ih x h1
    · rw [h1, List.getD_eq_getElem?_getD]
      cases hq : z[k]? with
      | none => exact h0
      | some y => exact h y (List.mem_of_getElem? hq)
/-- a block's later token that may be -/
def tokOk (t : Tok) : Bool := decide ((backR t.2.1 t.2.2).2 = 0 ∧ t.2.1 = t.1 % 16 ∧ t.2.1 ≤ 11 ∧ 0 ≤ t.1 ∧ t.1 ≤ 255 ∧ (t.2.1 = 0 → t.1 = 0 ∨ t.1 = 240))
/-- a block's first token that may be -/
def tokOk1 (before : Int) (t : Tok) : Bool := decide ((backR t.2.1 t.2.2).2 = 0 ∧ t.1 = t.2.1 ∧ -2047 ≤ before + (backR t.2.1 t.2.2).1 ∧ before + (backR t.2.1 t.2.2).1 ≤ 2047)
theorem backR_bd (n v : Int) : -4095 ≤ (backR n v).1 ∧ (backR n v).1 ≤ 4095 ∧ ((backR n v).2 = 0 ∨ (backR n v).2 = 1) := by
  unfold backR
  split
  · next h =>
    obtain ⟨h1, h2, h3, h4⟩ := h
    have p1 := pow_le n.toNat 12 (by omega)
    rw [show (2 : Int) ^ 12 = 4096 from by decide] at p1
    have p2 := pow_pos' n.toNat
    refine ⟨?_, ?_, .inl rfl⟩
    · show -4095 ≤ backZ _ _
      unfold backZ; split <;> omega
    · show backZ _ _ ≤ 4095
      unfold backZ; split <;> omega
  · simp
theorem backR_11 {n v : Int} (h : (backR n v).2 = 0) (h11 : n ≤ 11) : -2047 ≤ (backR n v).1 ∧ (backR n v).1 ≤ 2047 ∧ 0 ≤ n ∧ (n = 0 → (backR n v).1 = 0) := by
  unfold backR at h ⊢
  split at h
  · next hh =>
    rw [if_pos hh]
    obtain ⟨h1, h2, h3, h4⟩ := hh
    have p1 := pow_le n.toNat 11 (by omega)
    rw [show (2 : Int) ^ 11 = 2048 from by decide] at p1
    have p2 := pow_pos' n.toNat
    refine ⟨?_, ?_, h1, ?_⟩
    · show -2047 ≤ backZ _ _
      unfold backZ; split <;> omega
    · show backZ _ _ ≤ 2047
      unfold backZ; split <;> omega
    · intro e
      subst e
      simp at h4
      unfold backZ
      simp
      omega
  · simp at h
theorem tokOk_iff {t : Tok} : tokOk t = true ↔ (backR t.2.1 t.2.2).2 = 0 ∧ t.2.1 = t.1 % 16 ∧ t.2.1 ≤ 11 ∧ 0 ≤ t.1 ∧ t.1 ≤ 255 ∧ (t.2.1 = 0 → t.1 = 0 ∨ t.1 = 240) := decide_eq_true_iff
theorem tokOk_def (t : Tok) : tokOk t = decide ((backR t.2.1 t.2.2).2 = 0 ∧ t.2.1 = t.1 % 16 ∧ t.2.1 ≤ 11 ∧ 0 ≤ t.1 ∧ t.1 ≤ 255 ∧ (t.2.1 = 0 → t.1 = 0 ∨ t.1 = 240)) := rfl
theorem tokOk1_def (before : Int) (t : Tok) : tokOk1 before t = decide ((backR t.2.1 t.2.2).2 = 0 ∧ t.1 = t.2.1 ∧ -2047 ≤ before + (backR t.2.1 t.2.2).1 ∧ before + (backR t.2.1 t.2.2).1 ≤ 2047) := rfl
theorem tokOk1_iff {before : Int} {t : Tok} : tokOk1 before t = true ↔ (backR t.2.1 t.2.2).2 = 0 ∧ t.1 = t.2.1 ∧ -2047 ≤ before + (backR t.2.1 t.2.2).1 ∧ before + (backR t.2.1 t.2.2).1 ≤ 2047 := by simp [tokOk1]
section
variable {σ : Type}
/-- the tokens behind the first: the errno, the block in zig order, all tokens, the source -/
def goB (next : σ → Tok × Int × σ) (i : Nat) (z : List Int) (all : List Tok) (s : σ) : Int × List Int × List Tok × σ :=
  if h : i < 64 then
    if (next s).2.1 ≠ 0 then ((next s).2.1, z, all, (next s).2.2)
    else if tokOk (next s).1 = false then (4, z, all, (next s).2.2)
    else if (next s).1.1 = 0 then (0, z, all ++ [(next s).1], (next s).2.2)
    else if 64 < i + ((next s).1.1 / 16).toNat + 1 then (4, z, all, (next s).2.2)
    else goB next (i + ((next s).1.1 / 16).toNat + 1) (z.set (i + ((next s).1.1 / 16).toNat) (backR (next s).1.2.1 (next s).1.2.2).1) (all ++ [(next s).1]) (next s).2.2
  else (0, z, all, s)
termination_by 64 - i
variable {next : σ → Tok × Int × σ} {i : Nat} {z : List Int} {all : List Tok} {s s' : σ} {t : Tok} {e : Int}
theorem goB_err (hi : i < 64) (h : next s = (t, e, s')) (he : e ≠ 0) : goB next i z all s = (e, z, all, s') := by
  unfold goB; rw [dif_pos hi, h, if_pos he]
theorem goB_bad (hi : i < 64) (h : next s = (t, 0, s')) (ht : tokOk t = false) : goB next i z all s = (4, z, all, s') := by
  unfold goB; rw [dif_pos hi, h, if_neg (by simp), if_pos ht]
theorem goB_end (hi : i < 64) (h : next s = (t, 0, s')) (ht : tokOk t = true) (h0 : t.1 = 0) : goB next i z all s = (0, z, all ++ [t], s') := by
  unfold goB; rw [dif_pos hi, h, if_neg (by simp), if_neg (by simp [ht]), if_pos h0]
theorem goB_far (hi : i < 64) (h : next s = (t, 0, s')) (ht : tokOk t = true) (h0 : t.1 ≠ 0) (hf : 64 < i + (t.1 / 16).toNat + 1) : goB next i z all s = (4, z, all, s') := by
  unfold goB; rw [dif_pos hi, h, if_neg (by simp), if_neg (by simp [ht]), if_neg h0, if_pos hf]
theorem goB_step (hi : i < 64) (h : next s = (t, 0, s')) (ht : tokOk t = true) (h0 : t.1 ≠ 0) (hf : ¬ 64 < i + (t.1 / 16).toNat + 1) :
    goB next i z all s = goB next (i + (t.1 / 16).toNat + 1) (z.set (i + (t.1 / 16).toNat) (backR t.2.1 t.2.2).1) (all ++ [t]) s' := by
  rw [goB, dif_pos hi, h, if_neg (by simp), if_neg (by simp [ht]), if_neg h0, if_neg hf]
theorem goB_done (hi : ¬ i < 64) : goB next i z all s = (0, z, all, s) := by
  unfold goB; rw [dif_neg hi]
/-- what From and BlockOf answer: the errno, the block, its tokens, the source -/
def blkZ (next : Bool → σ → Tok × Int × σ) (before : Int) (s : σ) : Int × List Int × List Tok × σ :=
  if (next true s).2.1 ≠ 0 then ((next true s).2.1, List.replicate 64 0, [], (next true s).2.2)
  else if tokOk1 before (next true s).1 = false then (4, List.replicate 64 0, [], (next true s).2.2)
  else
    let g := goB (next false) 1 ((List.replicate 64 0).set 0 (before + (backR (next true s).1.2.1 (next true s).1.2.2).1)) [(next true s).1] (next true s).2.2
    if g.1 ≠ 0 then (g.1, List.replicate 64 0, [], g.2.2.2)
    else if tokensZ before g.2.1 = g.2.2.1 then (0, zfrom g.2.1 64, g.2.2.1, g.2.2.2)
    else (4, List.replicate 64 0, [], g.2.2.2)
variable {nextB : Bool → σ → Tok × Int × σ} {before : Int}
theorem blkZ_err (h : nextB true s = (t, e, s')) (he : e ≠ 0) : blkZ nextB before s = (e, List.replicate 64 0, [], s') := by
  unfold blkZ; rw [h, if_pos he]
theorem blkZ_bad (h : nextB true s = (t, 0, s')) (ht : tokOk1 before t = false) : blkZ nextB before s = (4, List.replicate 64 0, [], s') := by
  unfold blkZ; rw [h, if_neg (by simp), if_pos ht]
theorem blkZ_go (h : nextB true s = (t, 0, s')) (ht : tokOk1 before t = true) {g : Int × List Int × List Tok × σ} (hg : goB (nextB false) 1 ((List.replicate 64 0).set 0 (before + (backR t.2.1 t.2.2).1)) [t] s' = g) :
    blkZ nextB before s = if g.1 ≠ 0 then (g.1, List.replicate 64 0, [], g.2.2.2) else if tokensZ before g.2.1 = g.2.2.1 then (0, zfrom g.2.1 64, g.2.2.1, g.2.2.2) else (4, List.replicate 64 0, [], g.2.2.2) := by
  unfold blkZ
  rw [h, if_neg (by simp), if_neg (by simp [ht])]
  simp only
  rw [hg]
/-- what is made of the end of goB -/
def finZ (before : Int) (g : Int × List Int × List Tok × σ) : Int × List Int × List Tok × σ :=
  if g.1 ≠ 0 then (g.1, List.replicate 64 0, [], g.2.2.2) else if tokensZ before g.2.1 = g.2.2.1 then (0, zfrom g.2.1 64, g.2.2.1, g.2.2.2) else (4, List.replicate 64 0, [], g.2.2.2)
theorem blkZ_fin (h : nextB true s = (t, 0, s')) (ht : tokOk1 before t = true) : blkZ nextB before s = finZ before (goB (nextB false) 1 ((List.replicate 64 0).set 0 (before + (backR t.2.1 t.2.2).1)) [t] s') := blkZ_go h ht rfl
theorem finZ_err {x : Int} (hx : x ≠ 0) : finZ before (x, z, all, s) = (x, List.replicate 64 0, [], s) := if_pos hx
theorem finZ_good (h : tokensZ before z = all) : finZ before ((0 : Int), z, all, s) = (0, zfrom z 64, all, s) := by
  unfold finZ
  dsimp only
  rw [if_neg (show ¬ ((0 : Int) ≠ 0) by simp), if_pos h]
theorem finZ_ne (h : tokensZ before z ≠ all) : finZ before ((0 : Int), z, all, s) = (4, List.replicate 64 0, [], s) := by
  unfold finZ
  dsimp only
  rw [if_neg (show ¬ ((0 : Int) ≠ 0) by simp), if_neg h]
/-- the block under way: its length, its bounds, noughts from i on -/
structure Half (z : List Int) (i : Nat) : Prop where
  len : z.length = 64
  lo : ∀ x ∈ z, -2047 ≤ x ∧ x ≤ 2047
  zero : ∀ j, i ≤ j → j < 64 → z[j]? = some 0
theorem Half.set {z : List Int} {i k : Nat} (h : Half z i) (hk : i ≤ k) (hk2 : k < 64) {x : Int} (h1 : -2047 ≤ x) (h2 : x ≤ 2047) : Half (z.set k x) (k + 1) :=
  ⟨by simp [h.len], fun y hy => by
    rcases List.mem_or_eq_of_mem_set hy with h3 | h3
    · exact h.lo y h3
    · rw [h3]; exact ⟨h1, h2⟩, fun j hj hj2 => by
    rw [List.getElem?_set_ne (by omega)]; exact h.zero j (by omega) hj2⟩
theorem Half.same {z : List Int} {i k : Nat} (h : Half z i) (hk : i ≤ k) (hk2 : k < 64) : z.set k 0 = z := by
  have := h.zero k hk hk2
  obtain ⟨h1, h2⟩ := List.getElem?_eq_some_iff.1 this
  exact List.ext_getElem (by simp) fun j a b => by
    by_cases e : j = k
    · subst e; simp [h2]
    · simp [List.getElem_set, show ¬ k = j by omega]
theorem Half.init (x : Int) (h1 : -2047 ≤ x) (h2 : x ≤ 2047) : Half ((List.replicate 64 0).set 0 x) 1 :=
  ⟨by simp, fun y hy => by
    rcases List.mem_or_eq_of_mem_set hy with h3 | h3
    · simp at h3; omega
    · omega, fun j hj hj2 => by
    rw [List.getElem?_set_ne (by omega), List.getElem?_replicate, if_pos hj2]⟩
/-- the block at the end is such a one, too -/
theorem goB_half (next : σ → Tok × Int × σ) : ∀ (n i : Nat) (z : List Int) (all : List Tok) (s : σ), 64 - i = n → i ≤ 64 → Half z i → (goB next i z all s).1 = 0 → Half (goB next i z all s).2.1 64 := by
  intro n
  induction n using Nat.strongRecOn with
  | ind n ih =>
    intro i z all s hn hi hz h0
    by_cases hlt : i < 64
    · rcases hq : next s with ⟨t, e, s'⟩
      by_cases he : e = 0
      · subst he
        cases ht : tokOk t with
        | false => rw [goB_bad hlt hq ht] at h0; simp at h0
        | true =>
          have ht' := tokOk_iff.1 ht
          by_cases h1 : t.1 = 0
          · rw [goB_end hlt hq ht h1]
            exact ⟨hz.len, hz.lo, fun j a b => by omega⟩
          · by_cases hf : 64 < i + (t.1 / 16).toNat + 1
            · rw [goB_far hlt hq ht h1 hf] at h0; simp at h0
            · rw [goB_step hlt hq ht h1 hf] at h0 ⊢
              have b := backR_11 ht'.1 ht'.2.2.1
              exact ih _ (by omega) _ _ _ _ rfl (by omega) (hz.set (by omega) (by omega) b.1 b.2.1) h0
      · rw [goB_err hlt hq he] at h0; exact absurd h0 he
    · rw [goB_done hlt]
      exact ⟨hz.len, hz.lo, fun j a b => by omega⟩
end
end Go.Proofs.YtgmddhljgfbibaaDoor
/- A region that draws its order: one walk in the order of the text, in worlds that come later by a relation of one's own; where an operation is the only one that may come up, it may do what it likes. -/
namespace Go.Proofs.YtgmddhljgfbibaaDoor
set_option linter.unusedVariables false
set_option linter.unusedSimpArgs false
open Go.RowKit
/-- a relation of worlds: later -/
structure Later (R : World → World → Prop) : Prop where
  refl : ∀ w, R w w
  trans : ∀ {a b c}, R a b → R b c → R a c
theorem later_ext : Later Ext := ⟨Ext.refl, fun h k => Ext.trans h k⟩
section
variable {P : Program} {ops : Array Oper} {md : Region.Mode} {R : World → World → Prop}
def YieldsR (P : Program) (ops : Array Oper) (R : World → World → Prop) (o : Oper) (v : Value) (a : Act) (wc : World) : Prop :=
  (Region.wanted o (yielded ops a.tmps) = true ∧ ∀ w, R wc w → o.quietAt P a (R w) w v) ∨ (Region.wanted o (yielded ops a.tmps) = false ∧ v = undef)
theorem YieldsR.mono (L : Later R) {o : Oper} {v : Value} {a : Act} {wc w : World} (h : YieldsR P ops R o v a wc) (hw : R wc w) : YieldsR P ops R o v a w :=
  h.imp (fun ⟨h1, h2⟩ => ⟨h1, fun w' h' => h2 w' (L.trans hw h')⟩) id
theorem YieldsR.of_same {o : Oper} {v : Value} {a a' : Act} {wc : World} (hy : YieldsR P ops R o v a wc) (he : execOp a'.eval o = execOp a.eval o)
    (hw : Region.wanted o (yielded ops a'.tmps) = Region.wanted o (yielded ops a.tmps)) : YieldsR P ops R o v a' wc := by
  unfold YieldsR Oper.quietAt at *
  rw [he, hw]
  exact hy
theorem wp_of_quietAt (L : Later R) {o : Oper} {a : Act} {v : Value} {w : World} {K : Act → World → Prop} {Q : Exit → Act → World → Prop} (h : o.quietAt P a (R w) w v) (hk : ∀ w', R w w' → K (a.put o.dst v) w') : o.wp P a w K Q := by
  unfold Oper.quietAt at h
  unfold Oper.wp
  generalize (execOp a.eval o).run P w = r at *
  cases r with
  | ok n w' =>
    cases n <;> simp only [Oper.quietUpon] at h <;> simp only [Oper.upon]
    case value u =>
      obtain ⟨e1, e2⟩ := h
      rw [e1, e2]
      exact hk _ (L.refl _)
    case skip =>
      obtain ⟨e1, e2⟩ := h
      rw [e1, ← e2]
      exact hk _ (L.refl _)
    case enter f args =>
      obtain ⟨e1, hc⟩ := h
      rw [e1]
      exact hc.mono fun e w'' ⟨he, hw''⟩ => by subst he; exact hk _ hw''
  | halt x w' => simp only [Oper.quietUpon] at h
theorem YieldsR.wpOp (L : Later R) {i : Nat} {o : Oper} {v : Value} {a : Act} {wc w : World} {Q : Exit → Act → World → Prop} (hi : ops[i]? = some o) (hy : YieldsR P ops R o v a wc) (hw : R wc w)
    {K : Act → World → Prop} (h : ∀ w', R w w' → K (a.put o.dst v) w') : wpOp P ops Q i K a w := by
  unfold Go.wpOp
  simp only [hi]
  rcases hy with ⟨h1, h2⟩ | ⟨h1, rfl⟩
  · simp only [h1, if_true]
    exact .inl (wp_of_quietAt L (h2 w hw) h)
  · simp only [h1, Bool.false_eq_true, if_false]
    exact h _ (L.refl _)
theorem wpOp_putR {j : Nat} {oi oj : Oper} {v : Value} {wc : World} {Q : Exit → Act → World → Prop} (hj : ops[j]? = some oj) (hap : oi.apart ops oj = true)
    (hsi : ∀ cs b, oi.op ≠ .select cs b) (hsj : ∀ cs b, oj.op ≠ .select cs b)
    (hQ : ∀ c a w, Q (.panic c) (a.put oi.dst v) w → Q (.panic c) a w) {K : Act → World → Prop} {a : Act} {w : World}
    (hy : YieldsR P ops R oi v a wc) (h : wpOp P ops Q j K (a.put oi.dst v) w) :
    wpOp P ops Q j (fun a' w' => YieldsR P ops R oi v a' wc ∧ K (a'.put oi.dst v) w') a w := by
  obtain ⟨h1, h2, h3⟩ := Oper.apart_spec hap
  have keep : ∀ (a : Act), YieldsR P ops R oi v a wc → ∀ u, YieldsR P ops R oi v (a.put oj.dst u) wc := fun a hy u =>
    hy.of_same (execOp_put oi hsi a oj.dst u h3) (wanted_put oi a oj.dst u h3)
  have keepD : ∀ d, YieldsR P ops R oi v { a with defers := d :: a.defers } wc := fun d => hy.of_same rfl rfl
  unfold wpOp at *
  simp only [hj] at *
  rw [wanted_put oj a oi.dst v h1] at h
  split
  · rename_i hw
    simp only [hw, if_true] at h
    rcases h with h | ⟨hasks, hlets⟩
    case inr => exact .inr ⟨by unfold Oper.asks at *; rw [execOp_put oj hsj a oi.dst v h1] at hasks; exact hasks, hlets⟩
    refine .inl ?_
    unfold Oper.wp at *
    rw [execOp_put oj hsj a oi.dst v h1] at h
    generalize (execOp a.eval oj).run P w = r at *
    cases r with
    | ok n w' =>
      cases n <;> simp only [Oper.upon] at h ⊢
      case value u => exact ⟨keep a hy u, by rw [← Act.put_comm a v u h2]; exact h⟩
      case skip => exact ⟨keep a hy _, by rw [← Act.put_comm a v undef h2]; exact h⟩
      case defer d =>
        refine ⟨keep _ (keepD d) _, ?_⟩
        rw [← Act.put_comm _ v undef h2, ← Act.put_defers]
        exact h
      case enter f args =>
        refine Calls.mono h fun e w'' he => ?_
        cases e with
        | returned u => exact ⟨keep a hy u, by rw [← Act.put_comm a v u h2]; exact he⟩
        | panicked c => exact hQ _ _ _ he
        | outgrown => exact he
      case row row args => exact Rows.mono h fun u w'' he => ⟨keep a hy u, by rw [← Act.put_comm a v u h2]; exact he⟩
    | halt x w' =>
      cases x <;> simp only [Oper.upon] at h ⊢
      case panic u => exact hQ _ _ _ h
  · rename_i hw
    simp only [hw] at h
    exact ⟨keep a hy _, by rw [← Act.put_comm a v undef h2]; exact h⟩
/-- Whatever order is picked from here on, from whatever later world. -/
def wpAnyR (P : Program) (md : Region.Mode) (ops : Array Oper) (R : World → World → Prop) (Q : Exit → Act → World → Prop) : Nat → Array Bool → Act → World → Prop
  | 0, listed, a, wc => Region.ready md ops listed = [] ∧ ∀ w, R wc w → Q .normal a w
  | f + 1, listed, a, wc => (Region.ready md ops listed = [] → ∀ w, R wc w → Q .normal a w) ∧
    ∀ i ∈ Region.ready md ops listed, ∀ w, R wc w → wpOp P ops Q i (fun a' w' => R w w' ∧ wpAnyR P md ops R Q f (listed.setIfInBounds i true) a' w') a w
variable {Q : Exit → Act → World → Prop}
theorem wpAnyR_mono (L : Later R) : ∀ (f : Nat) (listed : Array Bool) (a : Act) (wc w : World), R wc w → wpAnyR P md ops R Q f listed a wc → wpAnyR P md ops R Q f listed a w
  | 0, _, _, _, _, hw, h => ⟨h.1, fun w' h' => h.2 w' (L.trans hw h')⟩
  | _ + 1, _, _, _, _, hw, h => ⟨fun h0 w' h' => h.1 h0 w' (L.trans hw h'), fun i hi w' h' => h.2 i hi w' (L.trans hw h')⟩
theorem wpAny_of_R (L : Later R) : ∀ (f : Nat) (listed : Array Bool) (a : Act) (wc w : World), R wc w → wpAnyR P md ops R Q f listed a wc → wpAny P md ops Q f listed a w
  | 0, _, _, _, _, hw, h => ⟨h.1, h.2 _ hw⟩
  | f + 1, _, _, _, _, hw, h => ⟨fun h0 => h.1 h0 _ hw, fun i hi => wpOp_mono (fun a' w' h' => wpAny_of_R L f _ a' w' w' (L.refl _) h'.2) (h.2 i hi _ hw)⟩
theorem wpAnyR_first (L : Later R) {i : Nat} {oi : Oper} {v : Value} (hi : ops[i]? = some oi) (hsel : ∀ (j : Nat) (o : Oper) cs b, ops[j]? = some o → o.op ≠ .select cs b)
    (hQ : ∀ c a w, Q (.panic c) (a.put oi.dst v) w → Q (.panic c) a w) :
    ∀ (fuel : Nat) (listed : Array Bool) (a : Act) (wc : World),
      (∀ j oj, ops[j]? = some oj → j ≠ i → listed.getD j true = false → (∀ e ∈ oj.after, Region.binds md e = true → e.on ≠ i) → oi.apart ops oj = true) →
      i ∈ Region.ready md ops listed → YieldsR P ops R oi v a wc →
      wpAnyR P md ops R Q fuel (listed.setIfInBounds i true) (a.put oi.dst v) wc → wpAnyR P md ops R Q (fuel + 1) listed a wc := by
  intro fuel
  induction fuel with
  | zero =>
    intro listed a wc _ hr hy H
    refine ⟨fun h => (by rw [h] at hr; cases hr), fun j hj w hw => ?_⟩
    by_cases hji : j = i
    · subst hji; exact hy.wpOp L hi hw fun w' h' => ⟨h', wpAnyR_mono L _ _ _ _ _ (L.trans hw h') H⟩
    · have := ready_mono hj hji
      rw [H.1] at this
      cases this
  | succ fuel ih =>
    intro listed a wc hfree hr hy H
    refine ⟨fun h => (by rw [h] at hr; cases hr), fun j hj w hw => ?_⟩
    by_cases hji : j = i
    · subst hji; exact hy.wpOp L hi hw fun w' h' => ⟨h', wpAnyR_mono L _ _ _ _ _ (L.trans hw h') H⟩
    · have h1 := H.2 j (ready_mono hj hji) w hw
      obtain ⟨hjun, oj, hoj, hall⟩ := mem_ready.1 hj
      have hnot : ∀ e ∈ oj.after, Region.binds md e = true → e.on ≠ i := fun e he hb heq => by
        have h1 := hall e he hb
        have h0 := (mem_ready.1 hr).1
        rw [heq] at h1
        rcases Nat.lt_or_ge i listed.size with h' | h'
        · simp [h'] at h0 h1; rw [h0] at h1; cases h1
        · simp [Array.getElem?_eq_none h'] at h1
      have h2 := wpOp_putR hoj (hfree j oj hoj hji hjun hnot) (fun cs b => hsel i oi cs b hi) (fun cs b => hsel j oj cs b hoj) hQ hy h1
      have hfree' : ∀ k ok, ops[k]? = some ok → k ≠ i → (listed.setIfInBounds j true).getD k true = false →
          (∀ e ∈ ok.after, Region.binds md e = true → e.on ≠ i) → oi.apart ops ok = true := fun k ok hk hki hun hno => by
        refine hfree k ok hk hki ?_ hno
        by_cases hjk : j = k
        · subst hjk; exact hjun
        · rw [getD_set_ne true hjk] at hun; exact hun
      refine wpOp_mono (fun a' w' h3 => ⟨h3.2.1, ih (listed.setIfInBounds j true) a' w' hfree' (ready_mono hr (Ne.symm hji)) (h3.1.mono L (L.trans hw h3.2.1)) ?_⟩) h2
      rw [Array.setIfInBounds_comm _ _ hji]
      exact h3.2.2
/-- THE WALK in the order of the text. -/
def wpLx (P : Program) (md : Region.Mode) (ops : Array Oper) (R : World → World → Prop) (Q : Exit → Act → World → Prop) : List Oper → Nat → Array Bool → Act → World → Prop
  | [], _, _, a, wc => ∀ w, R wc w → Q .normal a w
  | o :: rest, k, listed, a, wc =>
    (∃ v, YieldsR P ops R o v a wc ∧ wpLx P md ops R Q rest (k + 1) (listed.setIfInBounds k true) (a.put o.dst v) wc) ∨
    (Region.ready md ops listed = [k] ∧ ∀ w, R wc w → wpOp P ops Q k (fun a' w' => R w w' ∧ wpLx P md ops R Q rest (k + 1) (listed.setIfInBounds k true) a' w') a w)
theorem wpAnyR_lex (L : Later R) (hs : Region.noSelect ops = true) (hQ : ∀ c (a : Act) d v w, Q (.panic c) (a.put d v) w → Q (.panic c) a w) : ∀ (l : List Oper) (k : Nat) (listed : Array Bool) (a : Act) (wc : World), (∀ j, l[j]? = ops[k + j]?) →
    Region.lexFrom md ops l.length k listed = true → wpLx P md ops R Q l k listed a wc → wpAnyR P md ops R Q l.length listed a wc
  | [], _, _, _, _, _, hB, h => ⟨by simpa [Region.lexFrom] using hB, h⟩
  | o :: l, k, listed, a, wc, hl, hB, h => by
    have h0 : ops[k]? = some o := by simpa using (hl 0).symm
    simp only [List.length_cons, Region.lexFrom, Bool.and_eq_true] at hB
    obtain ⟨⟨hr, hf⟩, hB'⟩ := hB
    have hl' : ∀ j, l[j]? = ops[k + 1 + j]? := fun j => by have := hl (j + 1); simpa [Nat.add_assoc, Nat.add_comm 1 j] using this
    rcases h with ⟨v, hy, hK⟩ | ⟨hone, hK⟩
    · exact wpAnyR_first L h0 (Region.noSelect_spec hs) (fun c a w => hQ c a _ _ w) l.length listed a wc (Region.free_spec h0 hf) (by simpa using hr) hy
        (wpAnyR_lex L hs hQ l (k + 1) _ _ _ hl' hB' hK)
    · refine ⟨fun h0 => (by rw [h0] at hone; cases hone), fun i hi w hw => ?_⟩
      rw [hone] at hi
      have hik : i = k := by simpa using hi
      subst hik
      exact wpOp_mono (fun a' w' h' => ⟨h'.1, wpAnyR_lex L hs hQ l (i + 1) _ _ _ hl' hB' h'.2⟩) (hK w hw)
/-- it ends as it should, without a panic -/
def onlyN (QN : Act → World → Prop) : Exit → Act → World → Prop
  | .normal, a, w => QN a w
  | _, _, _ => False
theorem wp_region_lx (L : Later R) {id : Nat} {a : Act} {w : World} {l : List Oper} (hm : P.follows .mixedOrders = true) (hB : Region.lexB .any l.toArray = true)
    (h : wpLx P .any l.toArray R (onlyN (fun a w => Q .normal a w)) l 0 (Array.replicate l.length false) a w.drew) : (Code.region id l.toArray true).wp P Q a w := by
  simp only [Region.lexB, Bool.and_eq_true] at hB
  refine Code.wp_mono (Q := onlyN (fun a w => Q .normal a w)) (fun e a w h => ?_) (wp_region_any hm (wpAny_of_R L _ _ _ _ _ (L.refl _) ?_))
  · cases e <;> first | exact h | exact (h : False).elim
  · have := wpAnyR_lex (md := .any) L hB.1 (fun _ _ _ _ _ h => h) l 0 (Array.replicate l.toArray.size false) a w.drew (by simp) (by simpa using hB.2) (by simpa using h)
    simpa using this
variable {o : Oper} {rest : List Oper} {k : Nat} {listed : Array Bool} {a : Act} {wc : World}
theorem lx_nil {QN : Act → World → Prop} (h : ∀ w, R wc w → QN a w) : wpLx P md ops R (onlyN QN) [] k listed a wc := h
theorem lx_ex (hw : Region.wanted o (yielded ops a.tmps) = true) (h : ∃ v, (∀ w, R wc w → o.quietAt P a (R w) w v) ∧ wpLx P md ops R Q rest (k + 1) (listed.setIfInBounds k true) (a.put o.dst v) wc) : wpLx P md ops R Q (o :: rest) k listed a wc :=
  .inl (let ⟨v, h1, h2⟩ := h; ⟨v, .inl ⟨hw, h1⟩, h2⟩)
theorem lx_at (hw : Region.wanted o (yielded ops a.tmps) = true) (v : Value) (h1 : ∀ w, R wc w → o.quietAt P a (R w) w v) (h2 : wpLx P md ops R Q rest (k + 1) (listed.setIfInBounds k true) (a.put o.dst v) wc) : wpLx P md ops R Q (o :: rest) k listed a wc :=
  .inl ⟨v, .inl ⟨hw, h1⟩, h2⟩
theorem lx_skip (hw : Region.wanted o (yielded ops a.tmps) = false) (h : wpLx P md ops R Q rest (k + 1) (listed.setIfInBounds k true) (a.put o.dst undef) wc) : wpLx P md ops R Q (o :: rest) k listed a wc :=
  .inl ⟨undef, .inr ⟨hw, rfl⟩, h⟩
theorem lx_alone (hone : Region.ready md ops listed = [k]) (hk : ops[k]? = some o) (hw : Region.wanted o (yielded ops a.tmps) = true)
    (h : ∀ w, R wc w → o.wp P a w (fun a' w' => R w w' ∧ wpLx P md ops R Q rest (k + 1) (listed.setIfInBounds k true) a' w') Q) : wpLx P md ops R Q (o :: rest) k listed a wc :=
  .inr ⟨hone, fun w hR => by unfold wpOp; simp only [hk, hw, if_true]; exact .inl (h w hR)⟩
theorem lx_run (hw : Region.wanted o (yielded ops a.tmps) = true) (v : Value) (h1 : ∀ w, (execOp a.eval o).run P w = .ok (.value v) w) (h2 : wpLx P md ops R Q rest (k + 1) (listed.setIfInBounds k true) (a.put o.dst v) wc) : wpLx P md ops R Q (o :: rest) k listed a wc :=
  lx_at hw v (fun w _ => by unfold Oper.quietAt; rw [h1]; exact ⟨rfl, rfl⟩) h2
theorem lx_read (hw : Region.wanted o (yielded ops a.tmps) = true) (v : Value) (h1 : ∀ w, R wc w → (execOp a.eval o).run P w = .ok (.value v) w) (h2 : wpLx P md ops R Q rest (k + 1) (listed.setIfInBounds k true) (a.put o.dst v) wc) : wpLx P md ops R Q (o :: rest) k listed a wc :=
  lx_at hw v (fun w hR => by unfold Oper.quietAt; rw [h1 w hR]; exact ⟨rfl, rfl⟩) h2
theorem lx_load_blk (hw : Region.wanted o (yielded ops a.tmps) = true) (ty : TypeId) (x : Operand) (ho : o.op = .load ty x) (g : Nat) (hx : a.eval x = .pointer (some ⟨g, 0, none⟩))
    {t : TypeId} {cs : Array Value} (hB : ∀ w, R wc w → Blk w g t cs) (d : TypeDesc) (hu : P.underlying ty = some d) (hd : (match d with | .struct _ | .array _ _ => true | _ => false) = true)
    (n : Nat) (hs : (P.info? ty).map (·.size) = some n) (hn : cs.size = n) (h : wpLx P md ops R Q rest (k + 1) (listed.setIfInBounds k true) (a.put o.dst (.agg cs)) wc) : wpLx P md ops R Q (o :: rest) k listed a wc := by
  refine lx_read hw _ (fun w hC => ?_) h
  unfold execOp
  simp only [ho, hx, Instr.loadAt, Instr.sureAddr, Sem.run_bind, Sem.run_pure, Result.andThen_ok, run_loadVar_row w g t ty cs (0, 0) d (hB w hC) hu hd (by rw [hn]; exact hs)]
theorem lx_callF (hw : Region.wanted o (yielded ops a.tmps) = true) (f : FuncId) {fn : Func} (hf : P.funcs[f]? = some fn) (hname : (fn.name == "runtime.NumGoroutine") = false) (hb : fn.body.isSome = true) (xs : Array Operand) (ts : Array TypeId)
    (ho : o.op = .call { callee := .value (.func f), args := xs, argTypes := ts }) (args : Array Value) (hx : xs.map a.eval = args) (v : Value)
    (hc : ∀ w, R wc w → Calls P f args w fun e w' => e = .returned v ∧ R w w') (h : wpLx P md ops R Q rest (k + 1) (listed.setIfInBounds k true) (a.put o.dst v) wc) : wpLx P md ops R Q (o :: rest) k listed a wc := by
  obtain ⟨c, hb⟩ := Option.isSome_iff_exists.1 hb
  have hn : ¬ fn.name = "runtime.NumGoroutine" := by simpa using hname
  refine lx_at hw v (fun w hR => ?_) h
  have he : a.eval (.func f) = .func (.func f) #[] #[] := rfl
  have hrun : (execOp a.eval o).run P w = .ok (.enter f args) w := by simp [execOp, ho, resolve, hx, he, Deferred.ofValue, invoke, callFunc, hf, hb, hn]
  unfold Oper.quietAt
  rw [hrun]
  exact ⟨rfl, hc w hR⟩
/-- a call that is the only one that may come up: whatever it hands back -/
theorem lx_callF_alone (L : Later R) (hone : Region.ready md ops listed = [k]) (hk : ops[k]? = some o) (hw : Region.wanted o (yielded ops a.tmps) = true) (f : FuncId) {fn : Func} (hf : P.funcs[f]? = some fn) (hname : (fn.name == "runtime.NumGoroutine") = false) (hb : fn.body.isSome = true) (xs : Array Operand) (ts : Array TypeId)
    (ho : o.op = .call { callee := .value (.func f), args := xs, argTypes := ts }) (args : Array Value) (hx : xs.map a.eval = args)
    (h : ∀ w, R wc w → Calls P f args w fun e w' => ∃ v, e = .returned v ∧ R w w' ∧ wpLx P md ops R Q rest (k + 1) (listed.setIfInBounds k true) (a.put o.dst v) w') : wpLx P md ops R Q (o :: rest) k listed a wc := by
  obtain ⟨c, hb⟩ := Option.isSome_iff_exists.1 hb
  have hn : ¬ fn.name = "runtime.NumGoroutine" := by simpa using hname
  refine lx_alone hone hk hw fun w hR => ?_
  have he : a.eval (.func f) = .func (.func f) #[] #[] := rfl
  have hrun : (execOp a.eval o).run P w = .ok (.enter f args) w := by simp [execOp, ho, resolve, hx, he, Deferred.ofValue, invoke, callFunc, hf, hb, hn]
  unfold Oper.wp
  rw [hrun]
  refine (h w hR).mono fun e w' ⟨v, e1, h1, h2⟩ => ?_
  subst e1
  exact ⟨h1, h2⟩
end
end Go.Proofs.YtgmddhljgfbibaaDoor
/- Calls of a method of an interface value and of a function value, each by the contract of what it comes to. -/
namespace Go.Proofs.YtgmddhljgfbibaaDoor
set_option linter.unusedVariables false
set_option linter.unusedSimpArgs false
open Go.RowKit
/-- the interface value's method comes to function f, with this receiver -/
def Meth (P : Program) (ty : TypeId) (v : Value) (name : String) (f : FuncId) (recv : Value) : Prop :=
  (∀ w, (method (P.types.size + Made.depth) ty v name).run P w = .ok (f, recv) w) ∧ ∃ fn, P.funcs[f]? = some fn ∧ (fn.name == "runtime.NumGoroutine") = false ∧ fn.body.isSome = true
def Goes (P : Program) (f : FuncId) : Prop := ∃ fn, P.funcs[f]? = some fn ∧ (fn.name == "runtime.NumGoroutine") = false ∧ fn.body.isSome = true
section
variable {P : Program} {ops : Array Oper} {rest : List Oper} {o : Oper} {a : Act} {Q : Exit → Act → World → Prop}
theorem run_invoke (r : Operand) (name : String) (xs : Array Operand) (ts : Array TypeId) (ho : o.op = .call { callee := .invoke r name, args := xs, argTypes := ts }) {ty : TypeId} {v : Value}
    (hr : a.eval r = .iface ty v) {f : FuncId} {recv : Value} (hm : Meth P ty v name f recv) (args : Array Value) (hx : #[recv] ++ xs.map a.eval = args) (w : World) : (execOp a.eval o).run P w = .ok (.enter f args) w := by
  obtain ⟨h1, fn, hf, hname, hb⟩ := hm
  obtain ⟨c, hb⟩ := Option.isSome_iff_exists.1 hb
  have hn : ¬ fn.name = "runtime.NumGoroutine" := by simpa using hname
  subst hx
  have e0 : (#[Value.iface ty v] ++ Array.map a.eval xs)[0]? = some (.iface ty v) := by simp [Array.getElem?_append]
  have e1 : (#[Value.iface ty v] ++ Array.map a.eval xs).extract 1 (#[Value.iface ty v] ++ Array.map a.eval xs).size = xs.map a.eval := by simp
  simp only [execOp, ho, resolve, hr, invoke, Sem.run_bind, Sem.run_pure, Result.andThen_ok, e0, e1]
  simp [callMethod, callFunc, hf, hb, hn, h1, run_program]
theorem run_callv (x : Operand) (xs : Array Operand) (ts : Array TypeId) (ho : o.op = .call { callee := .value x, args := xs, argTypes := ts }) {f : FuncId} {cap : Array Value} (hr : a.eval x = .func (.func f) #[] cap)
    (hm : Goes P f) (args : Array Value) (hx : xs.map a.eval ++ cap = args) (w : World) : (execOp a.eval o).run P w = .ok (.enter f args) w := by
  obtain ⟨fn, hf, hname, hb⟩ := hm
  obtain ⟨c, hb⟩ := Option.isSome_iff_exists.1 hb
  have hn : ¬ fn.name = "runtime.NumGoroutine" := by simpa using hname
  subst hx
  simp [execOp, ho, resolve, hr, Deferred.ofValue, invoke, callFunc, hf, hb, hn, run_program]
theorem wl_enter {w : World} (hw : Region.wanted o (yielded ops a.tmps) = true) {f : FuncId} {args : Array Value} (hrun : ∀ w, (execOp a.eval o).run P w = .ok (.enter f args) w)
    (h : Calls P f args w fun e w' => ∃ v, e = .returned v ∧ wpList P ops Q rest (a.put o.dst v) w') : wpList P ops Q (o :: rest) a w :=
  wpList_wanted hw fun K hK => by
    unfold Oper.wp
    rw [hrun]
    refine h.mono fun e w' ⟨v, e1, h2⟩ => ?_
    subst e1
    exact hK _ _ h2
end
end Go.Proofs.YtgmddhljgfbibaaDoor
/- Rows of integers by value: general facts. -/
namespace Go.Proofs.YtgmddhljgfbibaaDoor
set_option linter.unusedVariables false
set_option linter.unusedSimpArgs false
open Go.RowKit
theorem sizeInt : (Tryd.prog.info? 3).map (·.size) = some 1 := by kernel_rfl
/-- a block of 64 numbers, as a value -/
def bv (zs : List Int) : Array Value := (ints zs).toArray
theorem bv_size (zs : List Int) : (bv zs).size = zs.length := by simp [bv, ints_len]
theorem bv_at (zs : List Int) (k : Nat) (h : k < zs.length) : (bv zs)[k]? = some (.int .i64 zs[k]) := by simp [bv, ints, h]
theorem bv_one (zs : List Int) : (bv zs).all (·.oneCell') = true := by
  simp only [bv, Array.all_eq_true_iff_forall_mem]
  intro v hv
  simp only [List.mem_toArray, ints, List.mem_map] at hv
  obtain ⟨z, -, rfl⟩ := hv
  rfl
theorem bv_set (zs : List Int) (k : Nat) (z : Int) : (bv zs).setIfInBounds k (.int .i64 z) = bv (zs.set k z) := by
  simp [bv, ints, List.map_set]
theorem Blk.bsl {w : World} {g : Nat} {T : TypeId} {zs : List Int} {c : Nat} (h : Blk w g T (bv zs)) (hc : zs.length ≤ c) (hc2 : c ≤ 9223372036854775807) :
    SL w 1 (.slice (some ⟨g, 0, none⟩) zs.length c) zs.length (Go.Proofs.YtgmddhljgfbibaaDoor.ints zs) := by
  have := h.sl (size := 1) (n := zs.length) (c := c) (by simp [bv_size]) hc hc2
  simpa [bv] using this
theorem allIn_take {zs : List Int} {lo hi : Int} {k : Nat} (h : ∀ z ∈ zs.take k, lo ≤ z ∧ z ≤ hi) (hk : k < zs.length) (hz : lo ≤ zs[k] ∧ zs[k] ≤ hi) : ∀ z ∈ zs.take (k + 1), lo ≤ z ∧ z ≤ hi := by
  rw [List.take_succ_eq_append_getElem hk]
  intro z hz'
  rcases List.mem_append.1 hz' with h1 | h1
  · exact h z h1
  · simp at h1; subst h1; exact hz
end Go.Proofs.YtgmddhljgfbibaaDoor
/- slices.IndexFunc, slices.ContainsFunc over a []int, whatever the function value. -/
namespace Go.Proofs.YtgmddhljgfbibaaDoor
set_option linter.unusedVariables false
set_option linter.unusedSimpArgs false
open Go.RowKit
def Enters (P : Program) (f : FuncId) : Prop := ∀ (args : Array Value) (w : World), (callFunc f args).run P w = .ok (.enter f args) w
theorem enters_of {P : Program} {f : FuncId} {fn : Func} {c : Code} (hf : P.funcs[f]? = some fn) (hname : (fn.name == "runtime.NumGoroutine") = false) (hb : fn.body = some c) : Enters P f := by
  intro args w
  have hn : ¬ fn.name = "runtime.NumGoroutine" := by simpa using hname
  simp [callFunc, hf, hb, hn]
def idxOf (p : Int → Bool) (zs : List Int) : Int := match zs.findIdx? p with | some k => k | none => -1
theorem indexFunc_any (g : Nat) (cap : Array Value) (p : Int → Bool) (eg : Enters Tryd.prog g) (v : Value) (zs : List Int) (w : World) (hs : SL w 1 v zs.length (ints zs))
    (hp : ∀ z ∈ zs, Calls Tryd.prog g (#[.int .i64 z] ++ cap) w fun e w' => e = .returned (.bool (p z)) ∧ w = w') :
    Calls Tryd.prog 99 #[v, .func (.func g) #[] cap] w fun e w' => e = .returned (.int .i64 (idxOf p zs)) ∧ w = w' := by
  have hs' := hs
  obtain ⟨A, c, rfl, hc1, hc2, -, -⟩ := hs'
  go_enter Tryd.func99, Tryd.ntmps99
  go_wp2_with fail
  go_loop [8] (fun i => ∃ k : Nat, k ≤ zs.length ∧ i = .int .i64 k ∧ ∀ z ∈ zs.take k, p z = false) (fun i => zs.length - (intOf i).toNat)
  case atStart => exact ⟨0, by omega, rfl, by simp⟩
  case round =>
    obtain ⟨k, hk, rfl, ht⟩ := hrel
    have HT : Hid (∀ z ∈ zs.take k, p z = false) := ht
    clear ht
    by_cases hlt : k < zs.length
    · obtain ⟨ad, u, rfl, -, hx, hcell⟩ := hs.at1 hlt
      obtain ⟨_, rfl⟩ := ints_at _ _ _ hx
      clear hx
      have hcall := hp zs[k] (List.getElem_mem _)
      have HC : Hid (Calls Tryd.prog g (#[.int .i64 zs[k]] ++ cap) w fun e w' => e = .returned (.bool (p zs[k])) ∧ w = w') := hcall
      have HP : Hid (∀ z ∈ zs, Calls Tryd.prog g (#[.int .i64 z] ++ cap) w fun e w' => e = .returned (.bool (p z)) ∧ w = w') := hp
      clear hcall hp
      unfold Enters at eg
      by_cases hz : p zs[k] = true
      · have hfin : idxOf p zs = k := by
          unfold idxOf
          have : zs.findIdx? p = some k := by
            rw [List.findIdx?_eq_some_iff_getElem]
            refine ⟨hlt, hz, fun j hj => ?_⟩
            have := HT.out zs[j] (by
              rw [List.mem_take_iff_getElem]
              exact ⟨j, by omega, rfl⟩)
            simp [this]
          rw [this]
        have HF := hid_ hfin
        clear hfin
        go_wp2_with fail
        refine HC.out.mono ?_
        rintro e w' ⟨rfl, rfl⟩
        rw [hz]; clear hz
        go_wp2
        go_ret
        exact ⟨by rw [HF.out]; rfl, rfl⟩
      · have hz' : p zs[k] = false := by simpa using hz
        have HZ := hid_ hz'
        clear hz
        go_wp2_with fail
        refine HC.out.mono ?_
        rintro e w' ⟨rfl, rfl⟩
        rw [hz']; clear hz'
        go_wp2
        go_round
        case rel =>
          refine ⟨k + 1, by omega, by go_num, fun z hz => ?_⟩
          rw [List.take_succ_eq_append_getElem hlt] at hz
          rcases List.mem_append.1 hz with h1 | h1
          · exact HT.out z h1
          · simp at h1; subst h1; exact HZ.out
        case measure => simp [intOf]; omega
    · have hfin : idxOf p zs = -1 := by
        unfold idxOf
        have : zs.findIdx? p = none := by
          rw [List.findIdx?_eq_none_iff]
          have h := HT.out
          rwa [List.take_of_length_le (by omega)] at h
        rw [this]
      have HF := hid_ hfin
      clear hfin
      go_wp2
      go_ret
      exact ⟨by rw [HF.out]; rfl, rfl⟩
theorem idxOf_ge (p : Int → Bool) (zs : List Int) : decide (idxOf p zs ≥ 0) = zs.any p := by
  unfold idxOf
  cases h : zs.findIdx? p with
  | none =>
    have : zs.any p = false := by rw [List.any_eq_false]; intro x hx; have := List.findIdx?_eq_none_iff.1 h x hx; simp [this]
    simp [this]
  | some k =>
    have : zs.any p = true := by
      rw [List.any_eq_true]
      obtain ⟨hk, hp, -⟩ := List.findIdx?_eq_some_iff_getElem.1 h
      exact ⟨_, List.getElem_mem hk, hp⟩
    simp [this]
theorem containsFunc_any (g : Nat) (cap : Array Value) (p : Int → Bool) (eg : Enters Tryd.prog g) (v : Value) (zs : List Int) (w : World) (hs : SL w 1 v zs.length (ints zs))
    (hp : ∀ z ∈ zs, Calls Tryd.prog g (#[.int .i64 z] ++ cap) w fun e w' => e = .returned (.bool (p z)) ∧ w = w') :
    Calls Tryd.prog 79 #[v, .func (.func g) #[] cap] w fun e w' => e = .returned (.bool (zs.any p)) ∧ w = w' := by
  have HP := hid_ hp
  have HG := hid_ eg
  clear hp eg
  go_enter Tryd.func79, Tryd.ntmps79
  go_wp2_with (go_at_call 99; refine (indexFunc_any g cap p HG.out v zs _ hs HP.out).mono ?_; rintro e w' ⟨rfl, rfl⟩)
  go_ret
  exact ⟨by rw [← idxOf_ge]; rfl, rfl⟩
end Go.Proofs.YtgmddhljgfbibaaDoor
/- api.Block by value: the facts of its type, and the contracts on whether all its numbers lie within bounds. -/
namespace Go.Proofs.YtgmddhljgfbibaaDoor
set_option linter.unusedVariables false
set_option linter.unusedSimpArgs false
open Go.RowKit
theorem run_index48 (cs : Array Value) (i : Nat) (u : Value) (hi : i < 64) (hu : cs[i]? = some u) (w : World) : (Instr.index 43 (.agg cs) (.int .i64 (i : Int))).run Tryd.prog w = .ok u w :=
  run_index_agg _ _ 64 cs i u Tryd.underlying43 _ Tryd.underlying3 sizeInt hi hu w
theorem size48 : (Tryd.prog.info? 43).map (·.size) = some 64 := by kernel_rfl
set_option maxHeartbeats 400000 in
theorem blockWithin_any (zs : List Int) (lo hi : Int) (w : World) (hz : zs.length = 64) :
    Calls Tryd.prog 57 #[.agg (bv zs), .int .i64 lo, .int .i64 hi] w fun e w' => e = .returned (.bool (allIn zs lo hi)) ∧ Ext w w' := by
  have HZ : Hid (zs.length = 64) := hz
  have hs := (bv_size zs).trans hz
  have HS : Hid ((bv zs).size = 64) := hs
  have hat := bv_at zs
  generalize hcs : bv zs = cs at *
  have HA : Hid (∀ (k : Nat) (h : k < zs.length), cs[k]? = some (.int .i64 zs[k])) := hat
  clear hat hs hz hcs
  go_enter Tryd.func57, Tryd.ntmps57
  go_wp2_with (refine wpList_load_blk rfl 43 _ rfl _ rfl (Blk.new w 43 cs) _ Tryd.underlying43 rfl 64 size48 HS.out ?_)
  go_loop [10] (fun i => ∃ k : Nat, k ≤ 64 ∧ i = .int .i64 k ∧ ∀ z ∈ zs.take k, lo ≤ z ∧ z ≤ hi) (fun i => 64 - (intOf i).toNat)
  case atStart => exact ⟨0, by omega, rfl, by simp⟩
  case round =>
    obtain ⟨k, hk, rfl, ht⟩ := hrel
    have HT : Hid (∀ z ∈ zs.take k, lo ≤ z ∧ z ≤ hi) := ht
    clear ht
    by_cases hlt : k < 64
    · have hlt2 : k < zs.length := by have := HZ.out; omega
      have hat := fun W => run_index48 cs k _ hlt (HA.out k hlt2) W
      cases hd : inB zs[k] lo hi with
      | true =>
        have HI := hid_ (inB_iff.1 hd)
        go_wp2_with (go_at_call 41; refine (outside_any _ _ _ _).mono ?_; rintro e w' ⟨rfl, rfl⟩)
        go_round
        case rel => exact ⟨k + 1, by omega, by go_num, allIn_take HT.out hlt2 HI.out⟩
        case measure => simp [intOf]; omega
      | false =>
        have HF := hid_ (allIn_no hlt2 hd)
        go_wp2_with (go_at_call 41; refine (outside_any _ _ _ _).mono ?_; rintro e w' ⟨rfl, rfl⟩)
        go_ret
        exact ⟨by rw [HF.out]; rfl, (Ext.refl w).alloc _⟩
    · have hfin : allIn zs lo hi = true := allIn_iff.2 (by have := HT.out; rwa [List.take_of_length_le (by have := HZ.out; omega)] at this)
      have HF : Hid (allIn zs lo hi = true) := hfin
      clear hfin
      go_wp2
      go_ret
      exact ⟨by rw [HF.out]; rfl, (Ext.refl w).alloc _⟩
end Go.Proofs.YtgmddhljgfbibaaDoor
