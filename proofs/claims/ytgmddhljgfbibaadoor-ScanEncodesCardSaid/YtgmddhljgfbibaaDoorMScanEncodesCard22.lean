/- Contracts for the law ScanEncodesCard, part 22: what the functions that it reaches answer, for all arguments that the theorems name. -/
import Derived.Test.YtgmddhljgfbibaaDoorMScanEncodesCard8
import Derived.Test.YtgmddhljgfbibaaDoorMScanEncodesCard15
import Derived.Test.YtgmddhljgfbibaaDoorMScanEncodesCard20
import Derived.Test.YtgmddhljgfbibaaDoorMScanEncodesCard21
import Derived.Test.YtgmddhljgfbibaaDoorMScanEncodesCard19
import Derived.Test.YtgmddhljgfbibaaDoorMScanEncodesCard10
import Derived.Lib.Bytealg
import Derived.Deep.Cut
/- A list of tokens as a source: list.Token, the closure of RunBlock. -/
namespace Go.Proofs.YtgmddhljgfbibaaDoor
set_option linter.unusedVariables false
set_option linter.unusedSimpArgs false
open Go.RowKit
theorem SL.rest {w : World} {A : Option Addr} {n c sz : Nat} {xs : List Value} (hs : SL w sz (.slice A n c) n xs) (h1 : 1 ≤ n) :
    SL w sz (.slice (if c = 1 then A else A.map (·.add sz)) (n - 1) (c - 1)) (n - 1) (xs.drop sz) := by
  obtain ⟨A', c', e, h1, h2, h3, h4⟩ := hs
  injection e with e1 e2 e3
  subst e1 e3
  refine ⟨_, _, rfl, by omega, by omega, by rw [List.length_drop, h3, Nat.sub_mul]; omega, fun h0 => ?_⟩
  obtain ⟨ad, rfl, hb, hc⟩ := h4 (by omega)
  rw [if_neg (by omega)]
  refine ⟨ad.add sz, rfl, by rw [block_of_add]; exact hb, fun j u hu => ?_⟩
  rw [add_of_add]
  refine hc _ _ ?_
  rwa [List.getElem?_drop] at hu
theorem SL.updp {S : Nat → Prop} {w w' : World} {size n c : Nat} {A : Option Addr} {xs : List Value} (h : SL w size (.slice A n c) n xs) (hu : Upd S w w') (hS : ∀ ad, A = some ad → 0 < n → ¬ S ad.block) : SL w' size (.slice A n c) n xs := by
  obtain ⟨A', c', e, h1, h2, h3, h4⟩ := h
  injection e with e1 e2 e3
  subst e1 e3
  refine ⟨_, _, rfl, h1, h2, h3, fun h0 => ?_⟩
  obtain ⟨ad, rfl, hb, hc⟩ := h4 h0
  refine ⟨ad, rfl, Nat.lt_of_lt_of_le hb hu.size, fun j u hj => ?_⟩
  rw [← hc j u hj]
  unfold World.cell?
  rw [block_of_add, hu.block _ hb (hS ad rfl h0)]
theorem run_slice1 (A : Option Addr) (n c : Nat) (hn : 1 ≤ n) (hc : n ≤ c) (w : World) :
    (Instr.slice 72 (.slice A n c) (some (.int .i64 1)) none none).run Tryd.prog w = .ok (.slice (if c = 1 then A else A.map (·.add 3)) (n - 1) (c - 1)) w := by
  have e1 : ((1 : Int) ≤ (n : Int)) := by omega
  have e2 : ((n : Int) ≤ (c : Int)) := by omega
  have e3 : 1 ≤ c := by omega
  go_simp
theorem ex_slice1 {o : Oper} {a : Act} {x : Operand} (ho : o.op = .slice 72 x (some (.const (.int .i64 1))) none none) {A : Option Addr} {n c : Nat} (hx : a.eval x = .slice A n c) (hn : 1 ≤ n) (hc : n ≤ c) (w : World) :
    (execOp a.eval o).run Tryd.prog w = .ok (.value (.slice (if c = 1 then A else A.map (·.add 3)) (n - 1) (c - 1))) w := by
  have e : a.eval (.const (.int .i64 1)) = .int .i64 1 := rfl
  simp [execOp, ho, hx, e, Instr.sliceAt, Sem.run_bind, run_underlying Tryd.underlying72, run_slice1 A n c hn hc w]
/-- the next token of a list -/
def listNext (_ : Bool) : List Tok → Tok × Int × List Tok
  | [] => ((0, 0, 0), 3, [])
  | t :: r => (t, 0, r)
/-- block g holds a slice of these tokens -/
def ListIn (T : TypeId) (g B : Nat) (W : World) (L : List Tok) : Prop :=
  (∃ A n c, Blk W g T #[.slice A n c] ∧ SL W 3 (.slice A n c) n (toks L) ∧ L.length = n ∧ n ≤ c ∧ (∀ ad, A = some ad → 0 < n → ad.block < B ∧ ad.block ≠ g)) ∧ g < B ∧ ∀ t ∈ L, I64 t.1 ∧ I64 t.2.1 ∧ I64 t.2.2
theorem ListIn.keep {T : TypeId} {g B : Nat} {W W' : World} {L : List Tok} (h : ListIn T g B W L) (hu : Upd (fun b => B ≤ b) W W') : ListIn T g B W' L := by
  obtain ⟨⟨A, n, c, h1, h2, h3, h4, h5⟩, h6, h7⟩ := h
  exact ⟨⟨A, n, c, hu.blk h1 (by omega), h2.updp hu (fun ad e h0 k => by have := (h5 ad e h0).1; omega), h3, h4, h5⟩, h6, h7⟩
theorem ListIn.next {T : TypeId} {g B : Nat} {W W' : World} {t : Tok} {r : List Tok} {A : Option Addr} {n c : Nat} (h2 : SL W 3 (.slice A n c) n (toks (t :: r))) (h3 : (t :: r).length = n) (h4 : n ≤ c)
    (h5 : ∀ ad, A = some ad → 0 < n → ad.block < B ∧ ad.block ≠ g) (h6 : g < B) (h7 : ∀ x ∈ t :: r, I64 x.1 ∧ I64 x.2.1 ∧ I64 x.2.2) (hu : Upd (fun b => b = g) W W') (hb : Blk W' g T #[.slice (if c = 1 then A else A.map (·.add 3)) (n - 1) (c - 1)]) : ListIn T g B W' r := by
  have hs := h2.rest (by simp at h3; omega)
  rw [show (toks (t :: r)).drop 3 = toks r by simp [toks, tokv]] at hs
  refine ⟨⟨_, _, _, hb, hs.updp hu (fun ad e h0 k => ?_), by simp at h3; omega, by omega, fun ad e h0 => ?_⟩, h6, fun x hx => h7 x (by simp [hx])⟩
  · split at e
    · exact (h5 ad e (by omega)).2 k
    · obtain ⟨a0, e0, e1⟩ := Option.map_eq_some_iff.1 e
      subst e1
      rw [block_of_add] at k
      exact (h5 a0 e0 (by omega)).2 k
  · split at e
    · exact h5 ad e (by omega)
    · obtain ⟨a0, e0, e1⟩ := Option.map_eq_some_iff.1 e
      subst e1
      rw [block_of_add]
      exact h5 a0 e0 (by omega)
end Go.Proofs.YtgmddhljgfbibaaDoor
/- run.From over any source, all ways; run.Block and RunBlock of the reference. -/
namespace Go.Proofs.YtgmddhljgfbibaaDoor
set_option linter.unusedVariables false
set_option linter.unusedSimpArgs false
open Go.RowKit
section
variable {σ : Type} {f : FuncId} {B : Nat} {S : Nat → Prop} {Inv : World → σ → Prop} {next : Bool → σ → Tok × Int × σ}
theorem from_any (before : Int) (hb1 : -2047 ≤ before) (hb2 : before ≤ 2047) {ty : TypeId} {v recv : Value} (hm : Meth Tryd.prog ty v "Token" f recv) (C : Src f #[recv] #[] B S Inv next) (w : World) (s : σ) (hI : Inv w s) (hB : B = w.heap.size) :
    Calls Tryd.prog 38 #[.int .i64 before, .iface ty v] w (FromIs S Inv w (blkZ next before s)) := by
  rcases hq : next true s with ⟨t, x, s'⟩
  by_cases hx : x = 0
  · subst hx
    cases hok : tokOk1 before t with
    | false => rw [blkZ_bad hq hok]; exact from_bad before hb1 hb2 hm C w s hI hB hq hok
    | true => exact from_go before hb1 hb2 hm C w s hI hB hq hok
  · rw [blkZ_err hq hx]; exact from_err before hm C w s hI hB hq hx
end
attribute [local irreducible] zfrom tokensZ accT backR
theorem goB_len {σ : Type} (next : σ → Tok × Int × σ) : ∀ (n i : Nat) (z : List Int) (all : List Tok) (s : σ), 64 - i = n → i ≤ 64 → z.length = 64 → all.length ≤ i → (goB next i z all s).2.1.length = 64 ∧ (goB next i z all s).2.2.1.length ≤ 64 := by
  intro n
  induction n using Nat.strongRecOn with
  | ind n ih =>
    intro i z all s hn hi hz hl
    by_cases hlt : i < 64
    · rcases hq : next s with ⟨t, e, s'⟩
      by_cases he : e = 0
      · subst he
        cases ht : tokOk t with
        | false => rw [goB_bad hlt hq ht]; exact ⟨hz, by dsimp only; omega⟩
        | true =>
          by_cases h1 : t.1 = 0
          · rw [goB_end hlt hq ht h1]; exact ⟨hz, by dsimp only; simp; omega⟩
          · by_cases hf : 64 < i + (t.1 / 16).toNat + 1
            · rw [goB_far hlt hq ht h1 hf]; exact ⟨hz, by dsimp only; omega⟩
            · rw [goB_step hlt hq ht h1 hf]
              exact ih _ (by omega) _ _ _ _ rfl (by omega) (by simpa using hz) (by simp; omega)
      · rw [goB_err hlt hq he]; exact ⟨hz, by dsimp only; omega⟩
    · rw [goB_done hlt]; exact ⟨hz, by dsimp only; omega⟩
theorem blkZ_len {σ : Type} (next : Bool → σ → Tok × Int × σ) (before : Int) (s : σ) : (blkZ next before s).2.1.length = 64 ∧ (blkZ next before s).2.2.1.length ≤ 64 := by
  rcases hq : next true s with ⟨t, x, s'⟩
  by_cases hx : x = 0
  · subst hx
    cases hok : tokOk1 before t with
    | false => rw [blkZ_bad hq hok]; exact ⟨by simp, by simp⟩
    | true =>
      rw [blkZ_fin hq hok]
      have h := goB_len (next false) 63 1 ((List.replicate 64 0).set 0 (before + (backR t.2.1 t.2.2).1)) [t] s' (by omega) (by omega) (by simp) (by simp)
      generalize goB (next false) 1 ((List.replicate 64 0).set 0 (before + (backR t.2.1 t.2.2).1)) [t] s' = g at *
      obtain ⟨e, z, all, q⟩ := g
      dsimp only at h
      by_cases he : e = 0
      · subst he
        by_cases ht : tokensZ before z = all
        · rw [finZ_good ht]; exact ⟨zfrom_len _ _, h.2⟩
        · rw [finZ_ne ht]; exact ⟨by simp, by simp⟩
      · rw [finZ_err he]; exact ⟨by simp, by simp⟩
  · rw [blkZ_err hq hx]; exact ⟨by simp, by simp⟩
end Go.Proofs.YtgmddhljgfbibaaDoor
/- Blocks out of digits, in plain words. -/
namespace Go.Proofs.YtgmddhljgfbibaaDoor
set_option linter.unusedVariables false
set_option linter.unusedSimpArgs false
open Go.RowKit
/-- m blocks more from place p on; flat -/
def segGo (next : Bool → Nat → Tok × Int × Nat) : Nat → Int → Nat → List Int → Int × List Int × Nat
  | 0, _, p, acc => (0, acc, p)
  | m + 1, before, p, acc => if (blkZ next before p).1 ≠ 0 then ((blkZ next before p).1, [], p) else segGo next m ((blkZ next before p).2.1.getD 0 0) (blkZ next before p).2.2.2 (acc ++ (blkZ next before p).2.1)
theorem segGo_err {next : Bool → Nat → Tok × Int × Nat} {m : Nat} {before : Int} {p : Nat} {acc : List Int} (h : (blkZ next before p).1 ≠ 0) : segGo next (m + 1) before p acc = ((blkZ next before p).1, [], p) := by rw [segGo, if_pos h]
theorem segGo_ok {next : Bool → Nat → Tok × Int × Nat} {m : Nat} {before : Int} {p : Nat} {acc : List Int} (h : (blkZ next before p).1 = 0) : segGo next (m + 1) before p acc = segGo next m ((blkZ next before p).2.1.getD 0 0) (blkZ next before p).2.2.2 (acc ++ (blkZ next before p).2.1) := by rw [segGo, if_neg (by simp [h])]
theorem segGo_same {n1 n2 : Bool → Nat → Tok × Int × Nat} (hs : ∀ b, SameN (n1 b) (n2 b)) : ∀ (m : Nat) (before : Int) (p : Nat) (acc : List Int), segGo n1 m before p acc = segGo n2 m before p acc
  | 0, _, _, _ => rfl
  | m + 1, before, p, acc => by
    obtain ⟨h1, h2, h3, h4⟩ := blkZ_same hs before p
    by_cases he : (blkZ n1 before p).1 = 0
    · rw [segGo_ok he, segGo_ok (by rw [← h1]; exact he), segGo_same hs m, h2, h4 he]
    · rw [segGo_err he, segGo_err (by rw [← h1]; exact he), h1]
theorem segGo_len {next : Bool → Nat → Tok × Int × Nat} : ∀ (m : Nat) (before : Int) (p : Nat) (acc : List Int) (k : Nat), acc.length = k * 64 → (segGo next m before p acc).1 = 0 → (segGo next m before p acc).2.1.length = (k + m) * 64
  | 0, _, _, acc, k, h, _ => by rw [segGo]; simpa using h
  | m + 1, before, p, acc, k, h, h0 => by
    by_cases he : (blkZ next before p).1 = 0
    · rw [segGo_ok he] at h0 ⊢
      have := segGo_len m _ _ (acc ++ (blkZ next before p).2.1) (k + 1) (by rw [List.length_append, h, (blkZ_len next before p).1]; omega) h0
      rw [this]
      congr 1
      omega
    · rw [segGo_err he] at h0
      exact absurd h0 he
/-- what is left must be less than a byte, and ones -/
def segFin (D : List Bool) (r : Int × List Int × Nat) : Int × List Int := if r.1 ≠ 0 then (r.1, []) else if 7 < D.length - r.2.2 ∨ false ∈ D.drop r.2.2 then (4, []) else (0, r.2.1)
theorem ones_iff (L : List Bool) : numB L = 2 ^ L.length - 1 ↔ ¬ false ∈ L := by
  rw [← numB_ones]
  constructor
  · intro h hm
    have e : L = List.replicate L.length true := numB_inj (by simp) h
    rw [e] at hm
    have := (List.mem_replicate.1 hm).2
    cases this
  · intro h
    have e : L = List.replicate L.length true := by
      refine List.eq_replicate_iff.2 ⟨rfl, fun b hb => ?_⟩
      cases b with
      | true => rfl
      | false => exact absurd hb h
    rw [← e]
theorem zero_iff : ∀ (L : List Bool), 0 ≤ Lib.indexByte (L.map chB) 48 ↔ false ∈ L
  | [] => by simp [Lib.indexByte]
  | b :: l => by
    have ih := zero_iff l
    have hge := Lib.indexByte_ge (l.map chB) 48
    rw [List.map_cons, Lib.indexByte]
    cases b with
    | false => simp [chB]
    | true =>
      rw [if_neg (by simp [chB])]
      by_cases h : Lib.indexByte (l.map chB) 48 = -1
      · rw [if_pos (by simpa using h)]
        rw [h] at ih
        simp only [List.mem_cons, Bool.false_eq_true, false_or]
        rw [← ih]
      · rw [if_neg (by simpa using h)]
        simp only [List.mem_cons, Bool.false_eq_true, false_or]
        rw [← ih]
        omega
/-- what Decode answers for good tables -/
def decR (r : Bool) (T1 T2 : List Tok) (nn : Int) (bs : Option (List Nat)) : Int × List Int :=
  if nn < 0 ∨ 400 < nn then (1, []) else match bs with
    | none => (4, [])
    | some pb => segFin (digsOf pb) (segGo (segNext r T1 T2 (digsOf pb)) nn.toNat 0 0 [])
theorem decR_same (T1 T2 : List Tok) (nn : Int) (bs : Option (List Nat)) : decR true T1 T2 nn bs = decR false T1 T2 nn bs := by
  unfold decR
  cases bs with
  | none => rfl
  | some pb => dsimp only; rw [segGo_same (n1 := segNext true T1 T2 (digsOf pb)) (n2 := segNext false T1 T2 (digsOf pb)) (fun b s => segNext_same T1 T2 (digsOf pb) b s)]
/-- what Decode hands back -/
def DecIs (r : Int × List Int) (w : World) (e : Ending) (w' : World) : Prop :=
  Ext w w' ∧ if r.1 = 0 then ∃ B k d, e = .returned (.tuple #[.slice B k d, .int .i64 0]) ∧ r.2.length = k * 64 ∧ SL w' 64 (.slice B k d) k (ints r.2) ∧ (B = none → d = 0)
    else e = .returned (.tuple #[.slice none 0 0, .int .i64 r.1])
theorem segNext_wf {r : Bool} {T1 T2 : List Tok} {D : List Bool} {b : Bool} {p : Nat} (hT1 : ∀ t ∈ T1, 0 ≤ t.1 ∧ t.1 ≤ 255) (hT2 : ∀ t ∈ T2, 0 ≤ t.1 ∧ t.1 ≤ 255) (h : (segNext r T1 T2 D b p).2.1 = 0) :
    I64 (segNext r T1 T2 D b p).1.1 ∧ I64 (segNext r T1 T2 D b p).1.2.1 ∧ I64 (segNext r T1 T2 D b p).1.2.2 := by
  by_cases h0 : (symZ (if b then T1 else T2) D p).2.2 ≠ 0
  · rw [segNext_sym h0] at h
    exact absurd h h0
  · obtain ⟨s, p', e⟩ : ∃ s p', symZ (if b then T1 else T2) D p = (s, p', 0) := ⟨_, _, Prod.ext rfl (Prod.ext rfl (by simpa using h0))⟩
    have hr := symZ_mem (T := if b then T1 else T2) (D := D) (p := p) (by cases b <;> assumption)
    rw [e] at hr
    dsimp only at hr
    by_cases hb : 12 < (if b then s else s % 16) ∨ (b = false ∧ 11 < (if b then s else s % 16))
    · rw [segNext_wide e rfl hb] at h; cases h
    · by_cases hl : D.length < p' + (if b then s else s % 16).toNat
      · rw [segNext_short e rfl hb hl] at h; cases h
      · rw [segNext_good e rfl hb hl]
        have h12 : (if b then s else s % 16) ≤ 12 := Int.not_lt.1 fun k => hb (.inl k)
        have h00 : 0 ≤ (if b then s else s % 16) := by cases b <;> simp <;> omega
        have hn := numB_take_lt (D.drop p') (if b then s else s % 16).toNat 12 (by omega)
        have h4 : (2 : Nat) ^ 12 = 4096 := by decide
        rw [h4] at hn
        unfold I64
        dsimp only
        refine ⟨by omega, by omega, by omega⟩
end Go.Proofs.YtgmddhljgfbibaaDoor
/- Coder.Get. -/
namespace Go.Proofs.YtgmddhljgfbibaaDoor
set_option linter.unusedVariables false
set_option linter.unusedSimpArgs false
open Go.RowKit Go.Maps Go.WideMaps
theorem numB_bit (D : List Bool) (p k : Nat) (h : p + k < D.length) : numB ((D.drop p).take (k + 1)) = 2 * numB ((D.drop p).take k) + numB ((D.drop (p + k)).take 1) := by
  rw [numB_take_succ _ _ (by simp; omega)]
  congr 1
  have e : (D.drop (p + k)).take 1 = [D[p + k]] := by
    rw [List.drop_eq_getElem_cons h]; rfl
  rw [e]
  simp [numB]
theorem zero_intV (w : World) : (zeroValue 3).run Tryd.prog w = .ok (.int .i64 0) w := by kernel_rfl
set_option maxRecDepth 20000 in
set_option maxHeartbeats 2000000 in
theorem coderGet_pos (gc gr : Nat) (T : List Tok) (A : Option Addr) (n c p : Nat) (bs : List Nat) (w0 w : World) (hc : CoderS w0 gc T) (hg : w0.heap.size ≤ gr) (hbw : Below gr w0 w) (hr : RdS w gr A n c p bs) (hgw : gr < w.heap.size) :
    Calls Tryd.prog 129 #[.pointer (some ⟨gc, 0, none⟩), .pointer (some ⟨gr, 0, none⟩)] w fun e w' =>
      e = .returned (.tuple #[.int .i64 (getGo T (digsOf bs) p 16 1).1, .int .i64 (getGo T (digsOf bs) p 16 1).2.2]) ∧ RdS w' gr A n c (if (getGo T (digsOf bs) p 16 1).2.2 = 0 then (getGo T (digsOf bs) p 16 1).2.1 else if (getGo T (digsOf bs) p 16 1).2.2 = 3 then 8 * n else p + 16) bs ∧ Upd (fun x => x = gr) w w' := by
  have HD : Hid ((digsOf bs).length = 8 * n) := hid_ (by rw [digsOf_len, hr.2.2.1])
  have HNB := hid_ (numB_bit (digsOf bs) p)
  have HLT := hid_ (fun i (h1 : i ≤ 24) => numB_take_lt ((digsOf bs).drop p) i 24 h1)
  have HL1 := hid_ (fun q => numB_take_lt ((digsOf bs).drop q) 1 1 (by omega))
  have HG0 : Hid (∀ long, getGo T (digsOf bs) p 0 long = (0, p, 4)) := hid_ (fun long => getGo_end)
  have HGO : Hid (∀ f long, ¬ p + long ≤ 8 * n → getGo T (digsOf bs) p (f + 1) long = (0, p, 3)) := hid_ (fun f long h => getGo_out (by rw [HD.out]; exact h))
  have HGY : Hid (∀ f long t, p + long ≤ 8 * n → T.find? (hasCode (long : Int) (numB (((digsOf bs).drop p).take long) : Nat)) = some t → getGo T (digsOf bs) p (f + 1) long = (t.1, p + long, 0)) := hid_ (fun f long t h hf => getGo_yes (by rw [HD.out]; exact h) hf)
  have HGN : Hid (∀ f long, p + long ≤ 8 * n → T.find? (hasCode (long : Int) (numB (((digsOf bs).drop p).take long) : Nat)) = none → getGo T (digsOf bs) p (f + 1) long = getGo T (digsOf bs) p f (long + 1)) := hid_ (fun f long h hf => getGo_no (by rw [HD.out]; exact h) hf)
  obtain ⟨ez, hez⟩ : ∃ ez, ez = getGo T (digsOf bs) p 16 1 := ⟨_, rfl⟩
  have HEZ := hid_ hez
  rw [← hez]
  obtain ⟨ps, hps⟩ : ∃ ps, ps = (if ez.2.2 = 0 then ez.2.1 else if ez.2.2 = 3 then 8 * n else p + 16) := ⟨_, rfl⟩
  have HPS := hid_ hps
  rw [← hps]
  clear hez hps
  have hp0 : p ≤ 8 * n := hr.2.2.2.2.2.2
  go_enter Tryd.func129, Tryd.ntmps129
  go_wp2_with fail
  go_loopw [6, 7] (fun v i wr => ∃ k : Nat, k ≤ 16 ∧ i = .int .i64 ((k + 1 : Nat) : Int) ∧ v = .int .i64 ((numB (((digsOf bs).drop p).take k) : Nat) : Int) ∧ Hid (ez = getGo T (digsOf bs) p (16 - k) (k + 1)) ∧ RdS wr gr A n c (p + k) bs ∧ Upd (fun x => x = gr) w wr) (fun _ i _ => 17 - (intOf i).toNat)
  case atStart => exact ⟨0, by omega, rfl, by simp [numB], HEZ, hr, Upd.refl _ _⟩
  case round =>
    clear HEZ hr
    obtain ⟨k, hk, rfl, rfl, HEZ, hr, hu⟩ := hrel
    have hpk : p + k ≤ 8 * n := hr.2.2.2.2.2.2
    by_cases hlt : k < 16
    · have HEK : Hid (ez = getGo T (digsOf bs) p (15 - k + 1) (k + 1)) := hid_ (by rw [HEZ.out, show 15 - k + 1 = 16 - k by omega])
      clear HEZ
      by_cases hfit : p + k + 1 ≤ 8 * n
      · have HYES := hid_ (fun t h => HEK.out.trans (HGY.out (15 - k) (k + 1) t (by omega) h))
        have HNO := hid_ (fun h => HEK.out.trans (HGN.out (15 - k) (k + 1) (by omega) h))
        have hcw := hc.below hg (hbw.trans (hu.below (fun x hx => by omega) (by omega)))
        have HG : Hid (∀ W, RdS W gr A n c (p + k) bs → Calls Tryd.prog 40 #[.pointer (some ⟨gr, 0, none⟩), .int .i64 1] W fun e w' => e = .returned (.tuple #[.int .i64 ((numB (((digsOf bs).drop (p + k)).take 1) : Nat) : Int), .bool true]) ∧ RdS w' gr A n c (p + k + 1) bs ∧ Upd (fun x => x = gr) W w') := hid_ (fun W h => get_yes gr A n c (p + k) bs 1 W h hfit (by omega))
        have HM2 := hid_ (HNB.out k (by rw [HD.out]; omega))
        have hm0 := HLT.out k (by omega)
        have hm20 := HLT.out (k + 1) (by omega)
        have hb0 := HL1.out (p + k)
        generalize numB (((digsOf bs).drop (p + k)).take 1) = b at *
        generalize numB (((digsOf bs).drop p).take k) = m at *
        generalize hm2 : numB (((digsOf bs).drop p).take (k + 1)) = m2 at *
        have HMM := hid_ hm2
        clear hm2
        have hb2 : b < 2 := by omega
        have hm : m < 1099511627776 := by omega
        have hk64 : IntKind.i64.wrap (((k + 1 : Nat) : Int) + 1) = ((k + 1 + 1 : Nat) : Int) := by rw [IntWalk.i64_in _ (by omega)]; omega
        go_upto_region 8 with (go_at_call 40; (with_reducible refine (HG.out _ hr).mono ?_); rintro e w5 ⟨rfl, hr5, hu5⟩)
        refine wp_region_lit ?_
        refine wl_run rfl (.int .i64 ((m : Nat) : Int)) (ex_move rfl rfl) ?_
        simp only [Act.put, List.setIfInBounds_toArray, List.set_cons_succ, List.set_cons_zero]
        refine wl_run rfl (.int .i64 ((2 * m : Nat) : Int)) (ex_binK (k := .i64) (m := (m : Int)) (k' := .u64) (n := 1) rfl rfl rfl (run_shl_one m hm)) ?_
        simp only [Act.put, List.setIfInBounds_toArray, List.set_cons_succ, List.set_cons_zero]
        refine wl_run rfl (.int .i64 ((b : Nat) : Int)) (ex_move rfl rfl) ?_
        simp only [Act.put, List.setIfInBounds_toArray, List.set_cons_succ, List.set_cons_zero]
        refine wl_run rfl (.int .i64 ((m2 : Nat) : Int)) (by rw [HM2.out]; exact ex_binK (k := .i64) (m := ((2 * m : Nat) : Int)) (k' := .i64) (n := ((b : Nat) : Int)) rfl rfl rfl (run_or2 m b hm hb2)) ?_
        simp only [Act.put, List.setIfInBounds_toArray, List.set_cons_succ, List.set_cons_zero]
        refine wl_run rfl (.int .i64 ((m2 : Nat) : Int)) (ex_assign rfl rfl) ?_
        simp only [Act.put, List.setIfInBounds_toArray, List.set_cons_succ, List.set_cons_zero]
        have hcw5 : CoderS w5 gc T := hc.below hg (hbw.trans ((hu.trans hu5 (fun x hx => .inl hx)).below (fun x hx => by omega) (by omega)))
        have hu15 := hu.trans hu5 (fun x hx => .inl hx)
        obtain ⟨m1, mp, mn, hB, hm1, hmp⟩ := hcw5
        have c1 := hB.cell 1
        simp only [List.getElem?_toArray, List.getElem?_cons_zero, List.getElem?_cons_succ] at c1
        have hok : okP (((k + 1 : Nat) : Int), (m2 : Int)) := ⟨by simp only; omega, by simp only; omega⟩
        have HKEY := hid_ (keyOf_P _ hok)
        have HCF := hid_ (codeF_hasCode T ((k + 1 : Nat) : Int) (m2 : Int))
        cases hf : T.find? (hasCode ((k + 1 : Nat) : Int) (m2 : Int)) with
        | some t =>
          rw [hf] at HCF
          simp only [Option.map_some] at HCF
          have HZ2 := hid_ (HYES.out t hf)
          clear hf HYES HNO
          go_wp2_with (at_lookup; refine wpList_look_ok_g (by rfl) _ _ 120 3 rfl keyed_pair Tryd.underlying120 _ (zero_intV _) rfl hmp _ rfl (((k + 1 : Nat) : Int), (m2 : Int)) hok HKEY.out (.int .i64 t.1) (by rw [HCF.out]; rfl) true (by rw [HCF.out]; rfl) ?_)
          go_ret2
          rw [HZ2.out]
          exact ⟨rfl, by rw [HPS.out, HZ2.out, if_pos rfl]; exact hr5, hu15⟩
        | none =>
          rw [hf] at HCF
          simp only [Option.map_none] at HCF
          have HZ2 := hid_ (HNO.out hf)
          clear hf HYES HNO
          go_wp2_with (at_lookup; refine wpList_look_ok_g (by rfl) _ _ 120 3 rfl keyed_pair Tryd.underlying120 _ (zero_intV _) rfl hmp _ rfl (((k + 1 : Nat) : Int), (m2 : Int)) hok HKEY.out (.int .i64 0) (by rw [HCF.out]; rfl) false (by rw [HCF.out]; rfl) ?_)
          go_roundw
          case rel => exact ⟨k + 1, by omega, by go_num, by rw [HMM.out], hid_ (by rw [HZ2.out, show 15 - k = 16 - (k + 1) by omega]), hr5, hu15⟩
          case measure => simp [intOf]; omega
      · have HZ2 : Hid (ez = (0, p, 3)) := hid_ (HEK.out.trans (HGO.out (15 - k) (k + 1) (by omega)))
        have HG : Hid (∀ W, RdS W gr A n c (p + k) bs → Calls Tryd.prog 40 #[.pointer (some ⟨gr, 0, none⟩), .int .i64 1] W fun e w' => e = .returned (.tuple #[.int .i64 0, .bool false]) ∧ Ext W w') := hid_ (fun W h => get_no gr A n c (p + k) bs 1 W h (by omega) (by omega))
        go_wp2_with (go_at_call 40; (with_reducible refine (HG.out _ hr).mono ?_); rintro e w5 ⟨rfl, hx5⟩)
        go_ret2
        rw [HZ2.out]
        exact ⟨rfl, by rw [HPS.out, HZ2.out, if_neg (show ¬ (3 : Int) = 0 by decide), if_pos rfl, show 8 * n = p + k by omega]; exact hr.ext hx5, hu.trans (Upd.of_ext (S := fun x => x = gr) hx5) (fun x hx => .inl hx)⟩
    · have ek : k = 16 := by omega
      subst ek
      rw [HG0.out] at HEZ
      go_wp2_with fail
      go_ret2
      rw [HEZ.out]
      exact ⟨rfl, by rw [HPS.out, HEZ.out, if_neg (show ¬ (4 : Int) = 0 by decide), if_neg (show ¬ (4 : Int) = 3 by decide)]; exact hr, hu⟩
theorem coderGet_any (gc gr : Nat) (T : List Tok) (A : Option Addr) (n c p : Nat) (bs : List Nat) (w0 w : World) (hc : CoderS w0 gc T) (hg : w0.heap.size ≤ gr) (hbw : Below gr w0 w) (hr : RdS w gr A n c p bs) (hgw : gr < w.heap.size) :
    Calls Tryd.prog 129 #[.pointer (some ⟨gc, 0, none⟩), .pointer (some ⟨gr, 0, none⟩)] w fun e w' =>
      e = .returned (.tuple #[.int .i64 (getGo T (digsOf bs) p 16 1).1, .int .i64 (getGo T (digsOf bs) p 16 1).2.2]) ∧ ((getGo T (digsOf bs) p 16 1).2.2 = 0 → RdS w' gr A n c (getGo T (digsOf bs) p 16 1).2.1 bs) ∧ Upd (fun x => x = gr) w w' :=
  (coderGet_pos gc gr T A n c p bs w0 w hc hg hbw hr hgw).mono fun _ _ ⟨e, h1, h2⟩ => ⟨e, fun h0 => by rw [if_pos h0] at h1; exact h1, h2⟩
end Go.Proofs.YtgmddhljgfbibaaDoor
