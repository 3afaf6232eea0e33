/- Contracts for the law StuffTellsUptoCard, part 2: what the functions that it reaches answer, for all arguments that the theorems name. -/
import Derived.Lib.CountLaws
import Derived.Test.YtgmddhljgfbibaaDoorMStuffTellsUptoCard1
import Derived.Deep.QuietTactic
import Derived.StillTail
/- Replacing in bytes, in plain words. -/
namespace Go.Proofs.YtgmddhljgfbibaaDoor
set_option linter.unusedVariables false
set_option linter.unusedSimpArgs false
open Go.RowKit
/-- bytes as the library's laws have them -/
def b8 (s : List Nat) : List UInt8 := s.map UInt8.ofNat
theorem b8_len (s : List Nat) : (b8 s).length = s.length := by simp [b8]
theorem b8_drop (s : List Nat) (k : Nat) : b8 (s.drop k) = (b8 s).drop k := by simp [b8]
def ixN (s o : List Nat) : Int := Lib.index (b8 s) (b8 o)
def cntN (s o : List Nat) : Nat := Lib.count (b8 s) (b8 o)
/-- the first m places replaced -/
def replN : Nat → List Nat → List Nat → List Nat → List Nat
  | 0, s, _, _ => s
  | m + 1, s, o, v => s.take (ixN s o).toNat ++ (v ++ replN m (s.drop ((ixN s o).toNat + o.length)) o v)
theorem b8_nil {o : List Nat} (h : o ≠ []) : b8 o ≠ [] := by
  intro e
  have := congrArg List.length e
  rw [b8_len] at this
  exact h (List.eq_nil_of_length_eq_zero this)
theorem cnt_succ {s o : List Nat} {m : Nat} (ho : o ≠ []) (h : cntN s o = m + 1) : ∃ i : Nat, ixN s o = i ∧ i + o.length ≤ s.length ∧ cntN (s.drop (i + o.length)) o = m := by
  unfold cntN at h
  have hge := Lib.index_ge (b8 s) (b8 o)
  have hne : Lib.index (b8 s) (b8 o) ≠ -1 := fun e => by rw [Lib.count_miss e] at h; omega
  obtain ⟨i, hi⟩ : ∃ i : Nat, Lib.index (b8 s) (b8 o) = i := ⟨(Lib.index (b8 s) (b8 o)).toNat, by omega⟩
  have hr := Lib.index_room (b8 s) (b8 o) (by omega)
  rw [hi, b8_len, b8_len] at hr
  rw [Lib.count_hit (b8_nil ho) hi, b8_len] at h
  refine ⟨i, hi, by omega, ?_⟩
  unfold cntN
  rw [b8_drop]
  omega
theorem replN_len : ∀ (m : Nat) (s o v : List Nat), o ≠ [] → cntN s o = m → (replN m s o v).length + m * o.length = s.length + m * v.length
  | 0, s, o, v, _, _ => by simp [replN]
  | m + 1, s, o, v, ho, h => by
    obtain ⟨i, h1, h2, h3⟩ := cnt_succ ho h
    have ih := replN_len m _ o v ho h3
    rw [replN, h1, Int.toNat_natCast, List.length_append, List.length_append, List.length_take, Nat.min_eq_left (by omega), Nat.succ_mul, Nat.succ_mul]
    rw [List.length_drop] at ih
    omega
theorem cnt_room : ∀ (m : Nat) (s o : List Nat), o ≠ [] → cntN s o = m → m * o.length ≤ s.length
  | 0, s, o, _, _ => by simp
  | m + 1, s, o, ho, h => by
    obtain ⟨i, h1, h2, h3⟩ := cnt_succ ho h
    have ih := cnt_room m _ o ho h3
    rw [List.length_drop] at ih
    rw [Nat.succ_mul]
    omega
theorem ix_nil {o : List Nat} (ho : o ≠ []) : ixN [] o = -1 := by
  unfold ixN
  cases h : b8 o with
  | nil => exact absurd h (b8_nil ho)
  | cons => simp [b8, Lib.index]
theorem cnt_nil {o : List Nat} (ho : o ≠ []) : cntN [] o = 0 := Lib.count_miss (ix_nil ho)
theorem ix_here {s o : List Nat} (hp : (b8 o).isPrefixOf (b8 s) = true) : ixN s o = 0 := by
  unfold ixN
  cases s with
  | nil =>
    cases hq : b8 o with
    | nil => simp [b8, Lib.index]
    | cons => rw [hq] at hp; simp [b8] at hp
  | cons b l =>
    rw [show b8 (b :: l) = UInt8.ofNat b :: b8 l from rfl] at hp ⊢
    rw [Lib.index, if_pos hp]
theorem ix_skip {b : Nat} {l o : List Nat} (hp : (b8 o).isPrefixOf (b8 (b :: l)) = false) : ixN (b :: l) o = if ixN l o = -1 then -1 else ixN l o + 1 := by
  unfold ixN
  rw [show b8 (b :: l) = UInt8.ofNat b :: b8 l from rfl] at hp ⊢
  rw [Lib.index, hp]
  simp
theorem cnt_here {s o : List Nat} (ho : o ≠ []) (hp : (b8 o).isPrefixOf (b8 s) = true) : cntN s o = 1 + cntN (s.drop o.length) o := by
  unfold cntN
  rw [Lib.count_hit (i := 0) (b8_nil ho) (ix_here hp), b8_len, Nat.zero_add, b8_drop]
theorem cnt_skip {b : Nat} {l o : List Nat} (ho : o ≠ []) (hp : (b8 o).isPrefixOf (b8 (b :: l)) = false) : cntN (b :: l) o = cntN l o := by
  have h := ix_skip hp
  have hge := Lib.index_ge (b8 l) (b8 o)
  by_cases hm : ixN l o = -1
  · rw [if_pos hm] at h
    unfold cntN
    rw [Lib.count_miss h, Lib.count_miss hm]
  · rw [if_neg hm] at h
    obtain ⟨i, hi⟩ : ∃ i : Nat, ixN l o = i := ⟨(ixN l o).toNat, by unfold ixN at *; omega⟩
    rw [hi] at h
    unfold cntN
    rw [Lib.count_hit (i := i + 1) (b8_nil ho) (by have := h; unfold ixN at this; rw [this]; rfl), Lib.count_hit (i := i) (b8_nil ho) hi]
    rw [show b8 (b :: l) = UInt8.ofNat b :: b8 l from rfl, show i + 1 + (b8 o).length = (i + (b8 o).length) + 1 by omega, List.drop_succ_cons]
/-- all of them replaced -/
def replZ (s o v : List Nat) : List Nat := replN (cntN s o) s o v
theorem replZ_nil {o : List Nat} (ho : o ≠ []) (v : List Nat) : replZ [] o v = [] := by unfold replZ; rw [cnt_nil ho, replN]
theorem replZ_here {s o : List Nat} (ho : o ≠ []) (hp : (b8 o).isPrefixOf (b8 s) = true) (v : List Nat) : replZ s o v = v ++ replZ (s.drop o.length) o v := by
  unfold replZ
  rw [cnt_here ho hp, Nat.add_comm, replN, ix_here hp]
  simp
theorem replZ_skip {b : Nat} {l o : List Nat} (ho : o ≠ []) (hp : (b8 o).isPrefixOf (b8 (b :: l)) = false) (v : List Nat) : replZ (b :: l) o v = b :: replZ l o v := by
  unfold replZ
  rw [cnt_skip ho hp]
  cases hc : cntN l o with
  | zero => rfl
  | succ m =>
    obtain ⟨i, h1, h2, h3⟩ := cnt_succ ho hc
    have h := ix_skip hp
    rw [h1, if_neg (by omega)] at h
    rw [replN, replN, h, h1, show ((i : Int) + 1).toNat = i + 1 by omega, Int.toNat_natCast, List.take_succ_cons, show i + 1 + o.length = (i + o.length) + 1 by omega, List.drop_succ_cons]
    rfl
theorem u8_inj {a b : Nat} (ha : a < 256) (hb : b < 256) : (UInt8.ofNat a == UInt8.ofNat b) = decide (a = b) := by
  rw [Bool.eq_iff_iff, beq_iff_eq, decide_eq_true_iff]
  constructor
  · intro h
    have := congrArg UInt8.toNat h
    simp at this
    omega
  · rintro rfl; rfl
theorem pre1 {b : Nat} {l : List Nat} (y : Nat) (hy : y < 256) (hb : b < 256) : (b8 [y]).isPrefixOf (b8 (b :: l)) = decide (y = b) := by
  simp only [b8, List.map_cons, List.map_nil, List.isPrefixOf, Bool.and_true]
  exact u8_inj hy hb
theorem pre2 {b c : Nat} {l : List Nat} (y z : Nat) (hy : y < 256) (hz : z < 256) (hb : b < 256) (hc : c < 256) : (b8 [y, z]).isPrefixOf (b8 (b :: c :: l)) = (decide (y = b) && decide (z = c)) := by
  simp only [b8, List.map_cons, List.map_nil, List.isPrefixOf, Bool.and_true]
  rw [u8_inj hy hb, u8_inj hz hc]
theorem pre2_one {b : Nat} (y z : Nat) : (b8 [y, z]).isPrefixOf (b8 [b]) = false := by
  simp [b8, List.isPrefixOf]
/-- the library's count of one byte -/
theorem count_one : ∀ (s : List UInt8) (c : UInt8), Lib.count s [c] = s.count c := by
  have key : ∀ (n : Nat) (s : List UInt8) (c : UInt8), s.length ≤ n → Lib.count s [c] = s.count c := by
    intro n
    induction n with
    | zero =>
      intro s c h
      obtain rfl : s = [] := List.eq_nil_of_length_eq_zero (by omega)
      rfl
    | succ n ih =>
      intro s c h
      cases s with
      | nil => rfl
      | cons b l =>
        have hl : l.length ≤ n := by simpa using h
        by_cases hb : c = b
        · have hix : Lib.index (b :: l) [c] = ((0 : Nat) : Int) := by
            rw [Lib.index, if_pos (by simp [List.isPrefixOf, hb])]; rfl
          rw [Lib.count_hit (by simp) hix]
          rw [show (b :: l).drop (0 + [c].length) = l from rfl, ih l c hl, hb, List.count_cons_self]
          omega
        · rw [List.count_cons_of_ne (fun e => hb e.symm), ← ih l c hl]
          have hix : Lib.index (b :: l) [c] = if (Lib.index l [c] == -1) = true then -1 else Lib.index l [c] + 1 := by
            rw [Lib.index, if_neg (by simp [List.isPrefixOf, hb])]
          have hge := Lib.index_ge l [c]
          by_cases hm : Lib.index l [c] = -1
          · rw [hm] at hix
            rw [Lib.count_miss hix, Lib.count_miss hm]
          · obtain ⟨i, hi⟩ : ∃ i : Nat, Lib.index l [c] = i := ⟨(Lib.index l [c]).toNat, by omega⟩
            rw [if_neg (by simpa using hm), hi] at hix
            rw [Lib.count_hit (i := i + 1) (by simp) (by rw [hix]; rfl), Lib.count_hit (i := i) (by simp) hi]
            rfl
  exact fun s c => key s.length s c (Nat.le_refl _)
/-- stuffed bytes -/
def stuffZ (bs : List Nat) : List Nat := bs.flatMap fun b => if b = 255 then [255, 0] else [b]
theorem stuff_repl : ∀ (bs : List Nat), (∀ b ∈ bs, b < 256) → replZ bs [255] [255, 0] = stuffZ bs
  | [], _ => by rw [replZ_nil (by simp)]; rfl
  | b :: l, h => by
    have hb := h b (by simp)
    have ih := stuff_repl l (fun x hx => h x (by simp [hx]))
    have hp := pre1 (l := l) 255 (by omega) hb
    by_cases hq : b = 255
    · rw [replZ_here (by simp) (by rw [hp]; simp [hq])]
      rw [show (b :: l).drop [255].length = l from rfl, ih]
      simp [stuffZ, hq]
    · rw [replZ_skip (by simp) (by rw [hp]; simpa using fun e => hq e.symm), ih]
      simp [stuffZ, hq]
/-- plain bytes -/
def plZ : List Nat → Option (List Nat)
  | [] => some []
  | [b] => if b = 255 then none else some [b]
  | b :: c :: r => if b = 255 then (if c = 0 then (plZ r).map (255 :: ·) else none) else (plZ (c :: r)).map (b :: ·)
theorem plain_repl : ∀ (bs : List Nat) (z : List Nat), (∀ b ∈ bs, b < 256) → plZ bs = some z → replZ bs [255, 0] [255] = z
  | [], z, _, hz => by
    obtain rfl : [] = z := by simpa [plZ] using hz
    exact replZ_nil (by simp) _
  | [b], z, h, hz => by
    rw [plZ] at hz
    split at hz
    · cases hz
    · injection hz with hz
      rw [replZ_skip (by simp) (pre2_one _ _), replZ_nil (by simp), hz]
  | b :: c :: r, z, h, hz => by
    have hb := h b (by simp)
    have hc := h c (by simp)
    have hp := pre2 (l := r) 255 0 (by omega) (by omega) hb hc
    rw [plZ] at hz
    by_cases hq : b = 255
    · rw [if_pos hq] at hz
      by_cases h0 : c = 0
      · rw [if_pos h0] at hz
        rw [replZ_here (by simp) (by rw [hp]; simp [hq, h0])]
        cases hr : plZ r with
        | none => rw [hr] at hz; cases hz
        | some q =>
          rw [hr] at hz
          injection hz with hz
          rw [show (b :: c :: r).drop [255, 0].length = r from rfl, plain_repl r q (fun x hx => h x (by simp [hx])) hr, ← hz]
          rfl
      · rw [if_neg h0] at hz; cases hz
    · rw [if_neg hq] at hz
      rw [replZ_skip (by simp) (by rw [hp, decide_eq_false (fun e : 255 = b => hq e.symm)]; rfl)]
      cases hr : plZ (c :: r) with
      | none => rw [hr] at hz; cases hz
      | some q =>
        rw [hr] at hz
        injection hz with hz
        rw [plain_repl (c :: r) q (fun x hx => h x (by simp [hx])) hr, ← hz]
/-- Split's answer tells whether they are plain -/
theorem sp_plZ : ∀ (bs : List Nat) (P : List (List Nat)) (M c : List Nat), (M ≠ [] ∨ plZ bs = none → ∀ z, spGo bs P M c = some z → z.2 ≠ []) ∧ (M = [] → ∀ q, plZ bs = some q → ∃ z, spGo bs P M c = some (z, []))
  | [], P, M, c => by
    rw [spGo, plZ]
    refine ⟨fun h z hz => ?_, fun h q _ => ⟨_, by rw [h]⟩⟩
    injection hz with hz
    subst hz
    rcases h with h | h
    · exact h
    · cases h
  | [x], P, M, c => by
    rw [spGo, plZ]
    by_cases hx : x = 255
    · rw [if_pos hx, if_pos hx]
      exact ⟨fun _ z hz => (by cases hz), fun _ q hq => (by cases hq)⟩
    · rw [if_neg hx, if_neg hx]
      refine ⟨fun h z hz => ?_, fun h q _ => ⟨_, by rw [h]⟩⟩
      injection hz with hz
      subst hz
      rcases h with h | h
      · exact h
      · cases h
  | x :: y :: r, P, M, c => by
    rw [plZ, spGo]
    by_cases hx : x = 255
    · rw [if_pos hx, if_pos hx]
      by_cases h1 : y = 255
      · rw [if_pos h1, if_neg (by omega)]
        exact ⟨fun _ z hz => (by cases hz), fun _ q hq => (by cases hq)⟩
      · rw [if_neg h1]
        by_cases h0 : y = 0
        · rw [if_pos h0, if_pos h0]
          have ih := sp_plZ r P M (c ++ [255, 0])
          refine ⟨fun h z hz => ih.1 (h.imp_right fun h => ?_) z hz, fun h q hq => ?_⟩
          · cases hr : plZ r with
            | none => rfl
            | some q => rw [hr] at h; cases h
          · cases hr : plZ r with
            | none => rw [hr] at hq; cases hq
            | some q' => exact ih.2 h q' hr
        · rw [if_neg h0, if_neg h0]
          exact ⟨fun _ z hz => (sp_plZ r (P ++ [c]) (M ++ [y]) []).1 (.inl (by simp)) z hz, fun _ q hq => (by cases hq)⟩
    · rw [if_neg hx, if_neg hx]
      have ih := sp_plZ (y :: r) P M (c ++ [x])
      refine ⟨fun h z hz => ih.1 (h.imp_right fun h => ?_) z hz, fun h q hq => ?_⟩
      · cases hr : plZ (y :: r) with
        | none => rfl
        | some q => rw [hr] at h; cases h
      · cases hr : plZ (y :: r) with
        | none => rw [hr] at hq; cases hq
        | some q' => exact ih.2 h q' hr
theorem stuff_lt {bs : List Nat} (h : ∀ b ∈ bs, b < 256) : ∀ b ∈ stuffZ bs, b < 256 := by
  intro b hb
  unfold stuffZ at hb
  obtain ⟨x, hx, hb⟩ := List.mem_flatMap.1 hb
  have := h x hx
  split at hb
  · simp at hb; omega
  · simp at hb; omega
theorem stuff_len : ∀ (bs : List Nat), (stuffZ bs).length ≤ 2 * bs.length
  | [] => by simp [stuffZ]
  | b :: l => by
    have := stuff_len l
    unfold stuffZ at *
    rw [List.flatMap_cons, List.length_append, List.length_cons]
    split
    · rw [show [255, 0].length = 2 from rfl]; omega
    · rw [List.length_singleton]; omega
end Go.Proofs.YtgmddhljgfbibaaDoor
/- A region that draws its order: one walk in the order of the text, in worlds that come later by a relation of one's own; where an operation is the only one that may come up, it may do what it likes. -/
namespace Go.Proofs.YtgmddhljgfbibaaDoor
set_option linter.unusedVariables false
set_option linter.unusedSimpArgs false
open Go.RowKit
/-- a relation of worlds: later -/
structure Later (R : World → World → Prop) : Prop where
  refl : ∀ w, R w w
  trans : ∀ {a b c}, R a b → R b c → R a c
theorem later_ext : Later Ext := ⟨Ext.refl, fun h k => Ext.trans h k⟩
section
variable {P : Program} {ops : Array Oper} {md : Region.Mode} {R : World → World → Prop}
def YieldsR (P : Program) (ops : Array Oper) (R : World → World → Prop) (o : Oper) (v : Value) (a : Act) (wc : World) : Prop :=
  (Region.wanted o (yielded ops a.tmps) = true ∧ ∀ w, R wc w → o.quietAt P a (R w) w v) ∨ (Region.wanted o (yielded ops a.tmps) = false ∧ v = undef)
theorem YieldsR.mono (L : Later R) {o : Oper} {v : Value} {a : Act} {wc w : World} (h : YieldsR P ops R o v a wc) (hw : R wc w) : YieldsR P ops R o v a w :=
  h.imp (fun ⟨h1, h2⟩ => ⟨h1, fun w' h' => h2 w' (L.trans hw h')⟩) id
theorem YieldsR.of_same {o : Oper} {v : Value} {a a' : Act} {wc : World} (hy : YieldsR P ops R o v a wc) (he : execOp a'.eval o = execOp a.eval o)
    (hw : Region.wanted o (yielded ops a'.tmps) = Region.wanted o (yielded ops a.tmps)) : YieldsR P ops R o v a' wc := by
  unfold YieldsR Oper.quietAt at *
  rw [he, hw]
  exact hy
theorem wp_of_quietAt (L : Later R) {o : Oper} {a : Act} {v : Value} {w : World} {K : Act → World → Prop} {Q : Exit → Act → World → Prop} (h : o.quietAt P a (R w) w v) (hk : ∀ w', R w w' → K (a.put o.dst v) w') : o.wp P a w K Q := by
  unfold Oper.quietAt at h
  unfold Oper.wp
  generalize (execOp a.eval o).run P w = r at *
  cases r with
  | ok n w' =>
    cases n <;> simp only [Oper.quietUpon] at h <;> simp only [Oper.upon]
    case value u =>
      obtain ⟨e1, e2⟩ := h
      rw [e1, e2]
      exact hk _ (L.refl _)
    case skip =>
      obtain ⟨e1, e2⟩ := h
      rw [e1, ← e2]
      exact hk _ (L.refl _)
    case enter f args =>
      obtain ⟨e1, hc⟩ := h
      rw [e1]
      exact hc.mono fun e w'' ⟨he, hw''⟩ => by subst he; exact hk _ hw''
  | halt x w' => simp only [Oper.quietUpon] at h
theorem YieldsR.wpOp (L : Later R) {i : Nat} {o : Oper} {v : Value} {a : Act} {wc w : World} {Q : Exit → Act → World → Prop} (hi : ops[i]? = some o) (hy : YieldsR P ops R o v a wc) (hw : R wc w)
    {K : Act → World → Prop} (h : ∀ w', R w w' → K (a.put o.dst v) w') : wpOp P ops Q i K a w := by
  unfold Go.wpOp
  simp only [hi]
  rcases hy with ⟨h1, h2⟩ | ⟨h1, rfl⟩
  · simp only [h1, if_true]
    exact .inl (wp_of_quietAt L (h2 w hw) h)
  · simp only [h1, Bool.false_eq_true, if_false]
    exact h _ (L.refl _)
theorem wpOp_putR {j : Nat} {oi oj : Oper} {v : Value} {wc : World} {Q : Exit → Act → World → Prop} (hj : ops[j]? = some oj) (hap : oi.apart ops oj = true)
    (hsi : ∀ cs b, oi.op ≠ .select cs b) (hsj : ∀ cs b, oj.op ≠ .select cs b)
    (hQ : ∀ c a w, Q (.panic c) (a.put oi.dst v) w → Q (.panic c) a w) {K : Act → World → Prop} {a : Act} {w : World}
    (hy : YieldsR P ops R oi v a wc) (h : wpOp P ops Q j K (a.put oi.dst v) w) :
    wpOp P ops Q j (fun a' w' => YieldsR P ops R oi v a' wc ∧ K (a'.put oi.dst v) w') a w := by
  obtain ⟨h1, h2, h3⟩ := Oper.apart_spec hap
  have keep : ∀ (a : Act), YieldsR P ops R oi v a wc → ∀ u, YieldsR P ops R oi v (a.put oj.dst u) wc := fun a hy u =>
    hy.of_same (execOp_put oi hsi a oj.dst u h3) (wanted_put oi a oj.dst u h3)
  have keepD : ∀ d, YieldsR P ops R oi v { a with defers := d :: a.defers } wc := fun d => hy.of_same rfl rfl
  unfold wpOp at *
  simp only [hj] at *
  rw [wanted_put oj a oi.dst v h1] at h
  split
  · rename_i hw
    simp only [hw, if_true] at h
    rcases h with h | ⟨hasks, hlets⟩
    case inr => exact .inr ⟨by unfold Oper.asks at *; rw [execOp_put oj hsj a oi.dst v h1] at hasks; exact hasks, hlets⟩
    refine .inl ?_
    unfold Oper.wp at *
    rw [execOp_put oj hsj a oi.dst v h1] at h
    generalize (execOp a.eval oj).run P w = r at *
    cases r with
    | ok n w' =>
      cases n <;> simp only [Oper.upon] at h ⊢
      case value u => exact ⟨keep a hy u, by rw [← Act.put_comm a v u h2]; exact h⟩
      case skip => exact ⟨keep a hy _, by rw [← Act.put_comm a v undef h2]; exact h⟩
      case defer d =>
        refine ⟨keep _ (keepD d) _, ?_⟩
        rw [← Act.put_comm _ v undef h2, ← Act.put_defers]
        exact h
      case enter f args =>
        refine Calls.mono h fun e w'' he => ?_
        cases e with
        | returned u => exact ⟨keep a hy u, by rw [← Act.put_comm a v u h2]; exact he⟩
        | panicked c => exact hQ _ _ _ he
        | outgrown => exact he
      case row row args => exact Rows.mono h fun u w'' he => ⟨keep a hy u, by rw [← Act.put_comm a v u h2]; exact he⟩
    | halt x w' =>
      cases x <;> simp only [Oper.upon] at h ⊢
      case panic u => exact hQ _ _ _ h
  · rename_i hw
    simp only [hw] at h
    exact ⟨keep a hy _, by rw [← Act.put_comm a v undef h2]; exact h⟩
/-- Whatever order is picked from here on, from whatever later world. -/
def wpAnyR (P : Program) (md : Region.Mode) (ops : Array Oper) (R : World → World → Prop) (Q : Exit → Act → World → Prop) : Nat → Array Bool → Act → World → Prop
  | 0, listed, a, wc => Region.ready md ops listed = [] ∧ ∀ w, R wc w → Q .normal a w
  | f + 1, listed, a, wc => (Region.ready md ops listed = [] → ∀ w, R wc w → Q .normal a w) ∧
    ∀ i ∈ Region.ready md ops listed, ∀ w, R wc w → wpOp P ops Q i (fun a' w' => R w w' ∧ wpAnyR P md ops R Q f (listed.setIfInBounds i true) a' w') a w
variable {Q : Exit → Act → World → Prop}
theorem wpAnyR_mono (L : Later R) : ∀ (f : Nat) (listed : Array Bool) (a : Act) (wc w : World), R wc w → wpAnyR P md ops R Q f listed a wc → wpAnyR P md ops R Q f listed a w
  | 0, _, _, _, _, hw, h => ⟨h.1, fun w' h' => h.2 w' (L.trans hw h')⟩
  | _ + 1, _, _, _, _, hw, h => ⟨fun h0 w' h' => h.1 h0 w' (L.trans hw h'), fun i hi w' h' => h.2 i hi w' (L.trans hw h')⟩
theorem wpAny_of_R (L : Later R) : ∀ (f : Nat) (listed : Array Bool) (a : Act) (wc w : World), R wc w → wpAnyR P md ops R Q f listed a wc → wpAny P md ops Q f listed a w
  | 0, _, _, _, _, hw, h => ⟨h.1, h.2 _ hw⟩
  | f + 1, _, _, _, _, hw, h => ⟨fun h0 => h.1 h0 _ hw, fun i hi => wpOp_mono (fun a' w' h' => wpAny_of_R L f _ a' w' w' (L.refl _) h'.2) (h.2 i hi _ hw)⟩
theorem wpAnyR_first (L : Later R) {i : Nat} {oi : Oper} {v : Value} (hi : ops[i]? = some oi) (hsel : ∀ (j : Nat) (o : Oper) cs b, ops[j]? = some o → o.op ≠ .select cs b)
    (hQ : ∀ c a w, Q (.panic c) (a.put oi.dst v) w → Q (.panic c) a w) :
    ∀ (fuel : Nat) (listed : Array Bool) (a : Act) (wc : World),
      (∀ j oj, ops[j]? = some oj → j ≠ i → listed.getD j true = false → (∀ e ∈ oj.after, Region.binds md e = true → e.on ≠ i) → oi.apart ops oj = true) →
      i ∈ Region.ready md ops listed → YieldsR P ops R oi v a wc →
      wpAnyR P md ops R Q fuel (listed.setIfInBounds i true) (a.put oi.dst v) wc → wpAnyR P md ops R Q (fuel + 1) listed a wc := by
  intro fuel
  induction fuel with
  | zero =>
    intro listed a wc _ hr hy H
    refine ⟨fun h => (by rw [h] at hr; cases hr), fun j hj w hw => ?_⟩
    by_cases hji : j = i
    · subst hji; exact hy.wpOp L hi hw fun w' h' => ⟨h', wpAnyR_mono L _ _ _ _ _ (L.trans hw h') H⟩
    · have := ready_mono hj hji
      rw [H.1] at this
      cases this
  | succ fuel ih =>
    intro listed a wc hfree hr hy H
    refine ⟨fun h => (by rw [h] at hr; cases hr), fun j hj w hw => ?_⟩
    by_cases hji : j = i
    · subst hji; exact hy.wpOp L hi hw fun w' h' => ⟨h', wpAnyR_mono L _ _ _ _ _ (L.trans hw h') H⟩
    · have h1 := H.2 j (ready_mono hj hji) w hw
      obtain ⟨hjun, oj, hoj, hall⟩ := mem_ready.1 hj
      have hnot : ∀ e ∈ oj.after, Region.binds md e = true → e.on ≠ i := fun e he hb heq => by
        have h1 := hall e he hb
        have h0 := (mem_ready.1 hr).1
        rw [heq] at h1
        rcases Nat.lt_or_ge i listed.size with h' | h'
        · simp [h'] at h0 h1; rw [h0] at h1; cases h1
        · simp [Array.getElem?_eq_none h'] at h1
      have h2 := wpOp_putR hoj (hfree j oj hoj hji hjun hnot) (fun cs b => hsel i oi cs b hi) (fun cs b => hsel j oj cs b hoj) hQ hy h1
      have hfree' : ∀ k ok, ops[k]? = some ok → k ≠ i → (listed.setIfInBounds j true).getD k true = false →
          (∀ e ∈ ok.after, Region.binds md e = true → e.on ≠ i) → oi.apart ops ok = true := fun k ok hk hki hun hno => by
        refine hfree k ok hk hki ?_ hno
        by_cases hjk : j = k
        · subst hjk; exact hjun
        · rw [getD_set_ne true hjk] at hun; exact hun
      refine wpOp_mono (fun a' w' h3 => ⟨h3.2.1, ih (listed.setIfInBounds j true) a' w' hfree' (ready_mono hr (Ne.symm hji)) (h3.1.mono L (L.trans hw h3.2.1)) ?_⟩) h2
      rw [Array.setIfInBounds_comm _ _ hji]
      exact h3.2.2
/-- THE WALK in the order of the text. -/
def wpLx (P : Program) (md : Region.Mode) (ops : Array Oper) (R : World → World → Prop) (Q : Exit → Act → World → Prop) : List Oper → Nat → Array Bool → Act → World → Prop
  | [], _, _, a, wc => ∀ w, R wc w → Q .normal a w
  | o :: rest, k, listed, a, wc =>
    (∃ v, YieldsR P ops R o v a wc ∧ wpLx P md ops R Q rest (k + 1) (listed.setIfInBounds k true) (a.put o.dst v) wc) ∨
    (Region.ready md ops listed = [k] ∧ ∀ w, R wc w → wpOp P ops Q k (fun a' w' => R w w' ∧ wpLx P md ops R Q rest (k + 1) (listed.setIfInBounds k true) a' w') a w)
theorem wpAnyR_lex (L : Later R) (hs : Region.noSelect ops = true) (hQ : ∀ c (a : Act) d v w, Q (.panic c) (a.put d v) w → Q (.panic c) a w) : ∀ (l : List Oper) (k : Nat) (listed : Array Bool) (a : Act) (wc : World), (∀ j, l[j]? = ops[k + j]?) →
    Region.lexFrom md ops l.length k listed = true → wpLx P md ops R Q l k listed a wc → wpAnyR P md ops R Q l.length listed a wc
  | [], _, _, _, _, _, hB, h => ⟨by simpa [Region.lexFrom] using hB, h⟩
  | o :: l, k, listed, a, wc, hl, hB, h => by
    have h0 : ops[k]? = some o := by simpa using (hl 0).symm
    simp only [List.length_cons, Region.lexFrom, Bool.and_eq_true] at hB
    obtain ⟨⟨hr, hf⟩, hB'⟩ := hB
    have hl' : ∀ j, l[j]? = ops[k + 1 + j]? := fun j => by have := hl (j + 1); simpa [Nat.add_assoc, Nat.add_comm 1 j] using this
    rcases h with ⟨v, hy, hK⟩ | ⟨hone, hK⟩
    · exact wpAnyR_first L h0 (Region.noSelect_spec hs) (fun c a w => hQ c a _ _ w) l.length listed a wc (Region.free_spec h0 hf) (by simpa using hr) hy
        (wpAnyR_lex L hs hQ l (k + 1) _ _ _ hl' hB' hK)
    · refine ⟨fun h0 => (by rw [h0] at hone; cases hone), fun i hi w hw => ?_⟩
      rw [hone] at hi
      have hik : i = k := by simpa using hi
      subst hik
      exact wpOp_mono (fun a' w' h' => ⟨h'.1, wpAnyR_lex L hs hQ l (i + 1) _ _ _ hl' hB' h'.2⟩) (hK w hw)
/-- it ends as it should, without a panic -/
def onlyN (QN : Act → World → Prop) : Exit → Act → World → Prop
  | .normal, a, w => QN a w
  | _, _, _ => False
theorem wp_region_lx (L : Later R) {id : Nat} {a : Act} {w : World} {l : List Oper} (hm : P.follows .mixedOrders = true) (hB : Region.lexB .any l.toArray = true)
    (h : wpLx P .any l.toArray R (onlyN (fun a w => Q .normal a w)) l 0 (Array.replicate l.length false) a w.drew) : (Code.region id l.toArray true).wp P Q a w := by
  simp only [Region.lexB, Bool.and_eq_true] at hB
  refine Code.wp_mono (Q := onlyN (fun a w => Q .normal a w)) (fun e a w h => ?_) (wp_region_any hm (wpAny_of_R L _ _ _ _ _ (L.refl _) ?_))
  · cases e <;> first | exact h | exact (h : False).elim
  · have := wpAnyR_lex (md := .any) L hB.1 (fun _ _ _ _ _ h => h) l 0 (Array.replicate l.toArray.size false) a w.drew (by simp) (by simpa using hB.2) (by simpa using h)
    simpa using this
variable {o : Oper} {rest : List Oper} {k : Nat} {listed : Array Bool} {a : Act} {wc : World}
theorem lx_nil {QN : Act → World → Prop} (h : ∀ w, R wc w → QN a w) : wpLx P md ops R (onlyN QN) [] k listed a wc := h
theorem lx_ex (hw : Region.wanted o (yielded ops a.tmps) = true) (h : ∃ v, (∀ w, R wc w → o.quietAt P a (R w) w v) ∧ wpLx P md ops R Q rest (k + 1) (listed.setIfInBounds k true) (a.put o.dst v) wc) : wpLx P md ops R Q (o :: rest) k listed a wc :=
  .inl (let ⟨v, h1, h2⟩ := h; ⟨v, .inl ⟨hw, h1⟩, h2⟩)
theorem lx_at (hw : Region.wanted o (yielded ops a.tmps) = true) (v : Value) (h1 : ∀ w, R wc w → o.quietAt P a (R w) w v) (h2 : wpLx P md ops R Q rest (k + 1) (listed.setIfInBounds k true) (a.put o.dst v) wc) : wpLx P md ops R Q (o :: rest) k listed a wc :=
  .inl ⟨v, .inl ⟨hw, h1⟩, h2⟩
theorem lx_skip (hw : Region.wanted o (yielded ops a.tmps) = false) (h : wpLx P md ops R Q rest (k + 1) (listed.setIfInBounds k true) (a.put o.dst undef) wc) : wpLx P md ops R Q (o :: rest) k listed a wc :=
  .inl ⟨undef, .inr ⟨hw, rfl⟩, h⟩
theorem lx_alone (hone : Region.ready md ops listed = [k]) (hk : ops[k]? = some o) (hw : Region.wanted o (yielded ops a.tmps) = true)
    (h : ∀ w, R wc w → o.wp P a w (fun a' w' => R w w' ∧ wpLx P md ops R Q rest (k + 1) (listed.setIfInBounds k true) a' w') Q) : wpLx P md ops R Q (o :: rest) k listed a wc :=
  .inr ⟨hone, fun w hR => by unfold wpOp; simp only [hk, hw, if_true]; exact .inl (h w hR)⟩
theorem lx_run (hw : Region.wanted o (yielded ops a.tmps) = true) (v : Value) (h1 : ∀ w, (execOp a.eval o).run P w = .ok (.value v) w) (h2 : wpLx P md ops R Q rest (k + 1) (listed.setIfInBounds k true) (a.put o.dst v) wc) : wpLx P md ops R Q (o :: rest) k listed a wc :=
  lx_at hw v (fun w _ => by unfold Oper.quietAt; rw [h1]; exact ⟨rfl, rfl⟩) h2
theorem lx_read (hw : Region.wanted o (yielded ops a.tmps) = true) (v : Value) (h1 : ∀ w, R wc w → (execOp a.eval o).run P w = .ok (.value v) w) (h2 : wpLx P md ops R Q rest (k + 1) (listed.setIfInBounds k true) (a.put o.dst v) wc) : wpLx P md ops R Q (o :: rest) k listed a wc :=
  lx_at hw v (fun w hR => by unfold Oper.quietAt; rw [h1 w hR]; exact ⟨rfl, rfl⟩) h2
theorem lx_load_blk (hw : Region.wanted o (yielded ops a.tmps) = true) (ty : TypeId) (x : Operand) (ho : o.op = .load ty x) (g : Nat) (hx : a.eval x = .pointer (some ⟨g, 0, none⟩))
    {t : TypeId} {cs : Array Value} (hB : ∀ w, R wc w → Blk w g t cs) (d : TypeDesc) (hu : P.underlying ty = some d) (hd : (match d with | .struct _ | .array _ _ => true | _ => false) = true)
    (n : Nat) (hs : (P.info? ty).map (·.size) = some n) (hn : cs.size = n) (h : wpLx P md ops R Q rest (k + 1) (listed.setIfInBounds k true) (a.put o.dst (.agg cs)) wc) : wpLx P md ops R Q (o :: rest) k listed a wc := by
  refine lx_read hw _ (fun w hC => ?_) h
  unfold execOp
  simp only [ho, hx, Instr.loadAt, Instr.sureAddr, Sem.run_bind, Sem.run_pure, Result.andThen_ok, run_loadVar_row w g t ty cs (0, 0) d (hB w hC) hu hd (by rw [hn]; exact hs)]
theorem lx_callF (hw : Region.wanted o (yielded ops a.tmps) = true) (f : FuncId) {fn : Func} (hf : P.funcs[f]? = some fn) (hname : (fn.name == "runtime.NumGoroutine") = false) (hb : fn.body.isSome = true) (xs : Array Operand) (ts : Array TypeId)
    (ho : o.op = .call { callee := .value (.func f), args := xs, argTypes := ts }) (args : Array Value) (hx : xs.map a.eval = args) (v : Value)
    (hc : ∀ w, R wc w → Calls P f args w fun e w' => e = .returned v ∧ R w w') (h : wpLx P md ops R Q rest (k + 1) (listed.setIfInBounds k true) (a.put o.dst v) wc) : wpLx P md ops R Q (o :: rest) k listed a wc := by
  obtain ⟨c, hb⟩ := Option.isSome_iff_exists.1 hb
  have hn : ¬ fn.name = "runtime.NumGoroutine" := by simpa using hname
  refine lx_at hw v (fun w hR => ?_) h
  have he : a.eval (.func f) = .func (.func f) #[] #[] := rfl
  have hrun : (execOp a.eval o).run P w = .ok (.enter f args) w := by simp [execOp, ho, resolve, hx, he, Deferred.ofValue, invoke, callFunc, hf, hb, hn]
  unfold Oper.quietAt
  rw [hrun]
  exact ⟨rfl, hc w hR⟩
/-- a call that is the only one that may come up: whatever it hands back -/
theorem lx_callF_alone (L : Later R) (hone : Region.ready md ops listed = [k]) (hk : ops[k]? = some o) (hw : Region.wanted o (yielded ops a.tmps) = true) (f : FuncId) {fn : Func} (hf : P.funcs[f]? = some fn) (hname : (fn.name == "runtime.NumGoroutine") = false) (hb : fn.body.isSome = true) (xs : Array Operand) (ts : Array TypeId)
    (ho : o.op = .call { callee := .value (.func f), args := xs, argTypes := ts }) (args : Array Value) (hx : xs.map a.eval = args)
    (h : ∀ w, R wc w → Calls P f args w fun e w' => ∃ v, e = .returned v ∧ R w w' ∧ wpLx P md ops R Q rest (k + 1) (listed.setIfInBounds k true) (a.put o.dst v) w') : wpLx P md ops R Q (o :: rest) k listed a wc := by
  obtain ⟨c, hb⟩ := Option.isSome_iff_exists.1 hb
  have hn : ¬ fn.name = "runtime.NumGoroutine" := by simpa using hname
  refine lx_alone hone hk hw fun w hR => ?_
  have he : a.eval (.func f) = .func (.func f) #[] #[] := rfl
  have hrun : (execOp a.eval o).run P w = .ok (.enter f args) w := by simp [execOp, ho, resolve, hx, he, Deferred.ofValue, invoke, callFunc, hf, hb, hn]
  unfold Oper.wp
  rw [hrun]
  refine (h w hR).mono fun e w' ⟨v, e1, h1, h2⟩ => ?_
  subst e1
  exact ⟨h1, h2⟩
end
end Go.Proofs.YtgmddhljgfbibaaDoor
/- A region that draws its order: a head walked in the order of the text in later worlds, and a tail that waits for all of it and does as it likes. -/
namespace Go.Proofs.YtgmddhljgfbibaaDoor
set_option linter.unusedVariables false
set_option linter.unusedSimpArgs false
open Go.RowKit
section
variable {P : Program} {ops : Array Oper} {md : Region.Mode} {R : World → World → Prop}
def wpAnyRL (P : Program) (md : Region.Mode) (ops : Array Oper) (R : World → World → Prop) (Q : Exit → Act → World → Prop) (n : Nat) (F : Array Bool → Act → World → Prop) : Nat → Array Bool → Act → World → Prop
  | 0, listed, a, wc => ∀ w, R wc w → F listed a w
  | f + 1, listed, a, wc => Region.ready md ops listed ≠ [] ∧ ∀ i ∈ Region.ready md ops listed, i < n ∧ ∀ w, R wc w → wpOp P ops Q i (fun a' w' => R w w' ∧ wpAnyRL P md ops R Q n F f (listed.setIfInBounds i true) a' w') a w
variable {Q : Exit → Act → World → Prop} {n : Nat} {F : Array Bool → Act → World → Prop}
theorem wpAnyRL_mono (L : Later R) : ∀ (f : Nat) (listed : Array Bool) (a : Act) (wc w : World), R wc w → wpAnyRL P md ops R Q n F f listed a wc → wpAnyRL P md ops R Q n F f listed a w
  | 0, _, _, _, _, hw, h => fun w' h' => h w' (L.trans hw h')
  | _ + 1, _, _, _, _, hw, h => ⟨h.1, fun i hi => ⟨(h.2 i hi).1, fun w' h' => (h.2 i hi).2 w' (L.trans hw h')⟩⟩
theorem not_letsOut {QN : Act → World → Prop} (h : LetsOut (onlyN QN)) : False := by
  obtain ⟨a, w, h⟩ := h
  exact h
/-- a panic's end is False: so the region's post may be any -/
theorem wpOp_exit {i : Nat} {K : Act → World → Prop} {QN : Act → World → Prop} {Q' : Exit → Act → World → Prop} {a : Act} {w : World} (h : wpOp P ops (onlyN QN) i K a w) : wpOp P ops Q' i K a w := by
  have up : ∀ (o : Oper) (r : Result Next), o.upon P a K (onlyN QN) r → o.upon P a K Q' r := by
    intro o r h
    cases r with
    | ok nx w' =>
      cases nx <;> simp only [Oper.upon] at h ⊢ <;> first
        | exact h
        | exact Calls.mono h (fun e w'' he => by cases e <;> first | exact he | exact (he : False).elim | exact (not_letsOut he).elim)
    | halt x w' =>
      cases x <;> simp only [Oper.upon] at h ⊢
      case panic u => exact (h : False).elim
  unfold wpOp at *
  split
  · rename_i ho; simpa [ho] using h
  · rename_i o ho
    simp only [ho] at h
    split
    · rename_i hw
      simp only [hw, if_true] at h
      rcases h with h | ⟨_, h⟩
      · exact .inl (up _ _ h)
      · exact (not_letsOut h).elim
    · rename_i hw
      simpa [hw] using h
theorem wpAny_of_RL (L : Later R) {QN : Act → World → Prop} {Q' : Exit → Act → World → Prop} {g : Nat} (hF : ∀ listed a w, F listed a w → wpAny P md ops Q' g listed a w) :
    ∀ (f : Nat) (listed : Array Bool) (a : Act) (wc : World), wpAnyRL P md ops R (onlyN QN) n F f listed a wc → ∀ w, R wc w → wpAny P md ops Q' (f + g) listed a w
  | 0, listed, a, wc, h, w, hw => by rw [Nat.zero_add]; exact hF _ _ _ (h w hw)
  | f + 1, listed, a, wc, h, w, hw => by
    rw [show f + 1 + g = (f + g) + 1 by omega]
    exact ⟨fun h0 => absurd h0 h.1, fun i hi => wpOp_exit (QN := QN) (wpOp_mono (fun a' w' h' => wpAny_of_RL L hF f _ a' w' h'.2 w' (L.refl _)) ((h.2 i hi).2 w hw))⟩
theorem wpAnyRL_first (L : Later R) {QN : Act → World → Prop} {i : Nat} {oi : Oper} {v : Value} (hi : ops[i]? = some oi) (hsel : ∀ (j : Nat) (o : Oper) cs b, ops[j]? = some o → o.op ≠ .select cs b)
    (hs : Region.sinkB md ops n = true) (hc : Region.chainB md ops n = true) (hn : n < ops.size) (hin : i < n)
    (hdone : ∀ listed a w, F listed a w → ∀ j ∈ Region.ready md ops listed, n ≤ j) :
    ∀ (f : Nat) (listed : Array Bool) (a : Act) (wc : World), HeadInv md ops n listed →
      (∀ j oj, ops[j]? = some oj → j ≠ i → listed.getD j true = false → (∀ e ∈ oj.after, Region.binds md e = true → e.on ≠ i) → oi.apart ops oj = true) →
      i ∈ Region.ready md ops listed → YieldsR P ops R oi v a wc →
      wpAnyRL P md ops R (onlyN QN) n F f (listed.setIfInBounds i true) (a.put oi.dst v) wc → wpAnyRL P md ops R (onlyN QN) n F (f + 1) listed a wc := by
  intro f
  induction f with
  | zero =>
    intro listed a wc inv _ hr hy H
    have hun := (mem_ready.1 hr).1
    refine ⟨fun h => (by rw [h] at hr; cases hr), fun j hj => ?_⟩
    have hjn : j < n := by
      rcases Nat.lt_or_ge j n with h | h
      · exact h
      · exact absurd hj (tail_waits hs hc hn inv _ i rfl hin hun j h)
    refine ⟨hjn, fun w hw => ?_⟩
    by_cases hji : j = i
    · subst hji; exact hy.wpOp L hi hw fun w' h' => ⟨h', wpAnyRL_mono L _ _ _ _ _ (L.trans hw h') H⟩
    · have := hdone _ _ _ (H w hw) j (ready_mono hj hji)
      omega
  | succ f ih =>
    intro listed a wc inv hfree hr hy H
    have hun := (mem_ready.1 hr).1
    refine ⟨fun h => (by rw [h] at hr; cases hr), fun j hj => ?_⟩
    have hjn : j < n := by
      rcases Nat.lt_or_ge j n with h | h
      · exact h
      · exact absurd hj (tail_waits hs hc hn inv _ i rfl hin hun j h)
    refine ⟨hjn, fun w hw => ?_⟩
    by_cases hji : j = i
    · subst hji; exact hy.wpOp L hi hw fun w' h' => ⟨h', wpAnyRL_mono L _ _ _ _ _ (L.trans hw h') H⟩
    · have h1 := (H.2 j (ready_mono hj hji)).2 w hw
      obtain ⟨hjun, oj, hoj, hall⟩ := mem_ready.1 hj
      have hnot : ∀ e ∈ oj.after, Region.binds md e = true → e.on ≠ i := fun e he hb heq => by
        have h1 := hall e he hb
        rw [heq, getD_both hun] at h1
        cases h1
      have h2 := wpOp_putR hoj (hfree j oj hoj hji hjun hnot) (fun cs b => hsel i oi cs b hi) (fun cs b => hsel j oj cs b hoj) (fun _ _ _ h => h) hy h1
      have hfree' : ∀ k ok, ops[k]? = some ok → k ≠ i → (listed.setIfInBounds j true).getD k true = false →
          (∀ e ∈ ok.after, Region.binds md e = true → e.on ≠ i) → oi.apart ops ok = true := fun k ok hk hki hun hno => by
        refine hfree k ok hk hki ?_ hno
        by_cases hjk : j = k
        · subst hjk; exact hjun
        · rw [getD_set_ne true hjk] at hun; exact hun
      refine wpOp_mono (fun a' w' h3 => ⟨h3.2.1, ih (listed.setIfInBounds j true) a' w' (inv.set hj hjn) hfree' (ready_mono hr (Ne.symm hji)) (h3.1.mono L (L.trans hw h3.2.1)) ?_⟩) h2
      rw [Array.setIfInBounds_comm _ _ hji]
      exact h3.2.2
theorem wpAnyRL_lex (L : Later R) {QN : Act → World → Prop} {g : Nat} (hsel : Region.noSelect ops = true) (hs : Region.sinkB md ops n = true) (hc : Region.chainB md ops n = true) (hn : n < ops.size) :
    ∀ (l : List Oper) (k : Nat) (listed : Array Bool) (a : Act) (wc : World), (∀ j, j < l.length → l[j]? = ops[k + j]?) → k + l.length = n → HeadInv md ops n listed →
    Region.lexHead md ops g l.length k listed = true → wpLx P md ops R (onlyN QN) l k listed a wc →
    wpAnyRL P md ops R (onlyN QN) n (fun listed' a' w' => Region.seqB md ops g n listed' = true ∧ QN a' w') l.length listed a wc
  | [], k, listed, a, wc, _, hk, _, hB, h => by
    have : k = n := by simpa using hk
    subst this
    exact fun w hw => ⟨by simpa [Region.lexHead] using hB, h w hw⟩
  | o :: l, k, listed, a, wc, hl, hk, inv, hB, h => by
    have h0 : ops[k]? = some o := by simpa using (hl 0 (by simp)).symm
    simp only [List.length_cons, Region.lexHead, Bool.and_eq_true] at hB
    obtain ⟨⟨hr, hf⟩, hB'⟩ := hB
    have hkn : k < n := by simp only [List.length_cons] at hk; omega
    have hr' : k ∈ Region.ready md ops listed := by simpa using hr
    have hl' : ∀ j, j < l.length → l[j]? = ops[k + 1 + j]? := fun j hj => by have := hl (j + 1) (by simp; omega); simpa [Nat.add_assoc, Nat.add_comm 1 j] using this
    have hk' : k + 1 + l.length = n := by simp only [List.length_cons] at hk; omega
    rcases h with ⟨v, hy, hK⟩ | ⟨hone, hK⟩
    · exact wpAnyRL_first L h0 (Region.noSelect_spec hsel) hs hc hn hkn (fun listed' a' w' hL => seqB_ready hL.1) l.length listed a wc inv (Region.free_spec h0 hf) hr' hy
        (wpAnyRL_lex L hsel hs hc hn l (k + 1) _ _ _ hl' hk' (inv.set hr' hkn) hB' hK)
    · refine ⟨fun h0 => (by rw [h0] at hone; cases hone), fun i hi => ?_⟩
      rw [hone] at hi
      have hik : i = k := by simpa using hi
      subst hik
      exact ⟨hkn, fun w hw => wpOp_mono (fun a' w' h' => ⟨h'.1, wpAnyRL_lex L hsel hs hc hn l (i + 1) _ _ _ hl' hk' (inv.set hr' hkn) hB' h'.2⟩) (hK w hw)⟩
theorem wp_region_lxt (L : Later R) (n : Nat) {id : Nat} {a : Act} {w : World} {l : List Oper} (hm : P.follows .mixedOrders = true) (hB : Region.lexTailB .any l.toArray n = true)
    (h : wpLx P .any l.toArray R (onlyN (fun a w => wpList P l.toArray Q (l.drop n) a w)) (l.take n) 0 (Array.replicate l.length false) a w.drew) : (Code.region id l.toArray true).wp P Q a w := by
  simp only [Region.lexTailB, Bool.and_eq_true, decide_eq_true_eq] at hB
  obtain ⟨⟨⟨⟨hsel, hn⟩, hs⟩, hc⟩, hlex⟩ := hB
  have hn' : n < l.length := by simpa using hn
  have htl : (l.take n).length = n := by simp; omega
  have hdl : (l.drop n).length = l.toArray.size - n := by simp
  have inv0 : HeadInv .any l.toArray n (Array.replicate l.toArray.size false) :=
    ⟨by simp, fun j oj _ hl => (by rw [getD_replicate_false] at hl; cases hl), fun t _ ht => getD_in (by simpa using ht) (getD_replicate_false _ _)⟩
  have H := wpAnyRL_lex (md := .any) (g := l.toArray.size - n) L hsel hs hc hn (l.take n) 0 (Array.replicate l.toArray.size false) a w.drew (fun j hj => by
    have hj' : j < n := by rw [htl] at hj; exact hj
    simp [hj']) (by simpa using htl) inv0 (by rw [htl]; exact hlex) (by simpa using h)
  refine wp_region_any hm ?_
  have := wpAny_of_RL (Q' := Q) (g := l.toArray.size - n) L (fun listed a' w' hL => by
    have := wpAny_of_seq (md := .any) (Q' := Q) (l.drop n) n listed a' w' (fun j => by simp [List.getElem?_drop]) (by rw [hdl]; exact hL.1) hL.2
    rwa [hdl] at this) _ _ _ _ H _ (L.refl _)
  rw [htl, show n + (l.toArray.size - n) = l.toArray.size by omega] at this
  exact this
end
end Go.Proofs.YtgmddhljgfbibaaDoor
/- Arithmetic on casts of natural numbers, run; binOp in drawn regions. -/
namespace Go.Proofs.YtgmddhljgfbibaaDoor
set_option linter.unusedVariables false
set_option linter.unusedSimpArgs false
open Go.RowKit
theorem guardN (op : BinOp) (x y : Operand) (v w : Int) (W : World) : (eqGuard op 3 x y (.int .i64 v) (.int .i64 w)).run Tryd.prog W = .ok () W := by
  cases op <;> go_simp
theorem run_quoN (i d : Nat) (h : i < 1000000000000) (hd : 0 < d) (W : World) : (binOp .quo 3 (.int .i64 (i : Int)) (.int .i64 (d : Int))).run Tryd.prog W = .ok (.int .i64 ((i / d : Nat) : Int)) W := by
  have h0 : (0 : Int) ≤ (i : Int) := by omega
  have h1 : ¬ d = 0 := by omega
  have h2 : (i / d : Nat) ≤ i := Nat.div_le_self _ _
  have h5 : ∀ q : Nat, q ≤ i → IntKind.i64.wrap (q : Int) = (q : Int) := fun q hq => IntWalk.i64_in _ (by omega)
  have h4 : IntKind.i64.wrap ((i : Int) / (d : Int)) = (i : Int) / (d : Int) := by rw [← Int.natCast_ediv]; exact h5 _ h2
  have h3 : (Int.tdiv (i : Int) (d : Int)) = (i : Int) / (d : Int) := Int.tdiv_eq_ediv_of_nonneg h0
  go_simp
theorem run_remN (i d : Nat) (h : i < 1000000000000) (hd : 0 < d) (W : World) : (binOp .rem 3 (.int .i64 (i : Int)) (.int .i64 (d : Int))).run Tryd.prog W = .ok (.int .i64 ((i % d : Nat) : Int)) W := by
  have h0 : (0 : Int) ≤ (i : Int) := by omega
  have h1 : ¬ d = 0 := by omega
  have h3 : (Int.tmod (i : Int) (d : Int)) = (i : Int) % (d : Int) := Int.tmod_eq_emod_of_nonneg h0
  go_simp
theorem run_mulN (i d k : Nat) (h : i * d = k) (hk : k < 1000000000000) (W : World) : (binOp .mul 3 (.int .i64 (i : Int)) (.int .i64 (d : Int))).run Tryd.prog W = .ok (.int .i64 (k : Int)) W := by
  have h4 : IntKind.i64.wrap ((i : Int) * (d : Int)) = (k : Int) := by rw [← Int.natCast_mul, h]; exact IntWalk.i64_in _ (by omega)
  go_simp
theorem run_addN (i d : Nat) (h : i + d < 1000000000000) (W : World) : (binOp .add 3 (.int .i64 (i : Int)) (.int .i64 (d : Int))).run Tryd.prog W = .ok (.int .i64 ((i + d : Nat) : Int)) W := by
  have h4 : IntKind.i64.wrap ((i : Int) + (d : Int)) = ((i + d : Nat) : Int) := by rw [← Int.natCast_add]; exact IntWalk.i64_in _ (by omega)
  go_simp
theorem run_subN (i d : Nat) (h : i < 1000000000000) (h2 : d ≤ i) (W : World) : (binOp .sub 3 (.int .i64 (i : Int)) (.int .i64 (d : Int))).run Tryd.prog W = .ok (.int .i64 ((i - d : Nat) : Int)) W := by
  have h4 : IntKind.i64.wrap ((i : Int) - (d : Int)) = ((i - d : Nat) : Int) := by rw [← Int.natCast_sub h2]; exact IntWalk.i64_in _ (by omega)
  go_simp
section
variable {P : Program} {md : Region.Mode} {ops : Array Oper} {R : World → World → Prop} {Q : Exit → Act → World → Prop} {rest : List Oper} {o : Oper} {k : Nat} {listed : Array Bool} {a : Act} {wc : World}
theorem lx_binOp (hw : Region.wanted o (yielded ops a.tmps) = true) (op : BinOp) (t : TypeId) (x y : Operand) (t2 : TypeId) (ho : o.op = .binOp op t x y t2) (vx vy : Value) (hx : a.eval x = vx) (hy : a.eval y = vy) (v : Value)
    (hg : ∀ w, (eqGuard op t x y vx vy).run P w = .ok () w) (hr : ∀ w, (binOp op t vx vy).run P w = .ok v w) (h : wpLx P md ops R Q rest (k + 1) (listed.setIfInBounds k true) (a.put o.dst v) wc) : wpLx P md ops R Q (o :: rest) k listed a wc :=
  lx_run hw v (fun w => by simp [execOp, ho, hx, hy, hg, hr]) h
end
theorem run_loadN (W : World) (p : Addr) (z : Int) (h : W.cell? p = some (.int .i64 z)) : (Instr.loadAt 3 (.pointer (some p))).run Tryd.prog W = .ok (.int .i64 z) W := by
  go_simp
end Go.Proofs.YtgmddhljgfbibaaDoor
