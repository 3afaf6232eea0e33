/- Contracts for the law ScanDecodesUptoCard, part 19: what the functions that it reaches answer, for all arguments that the theorems name. -/
import Derived.Test.YtgmddhljgfbibaaGreatDoorMScanDecodesUptoCard3
import Derived.Test.YtgmddhljgfbibaaGreatDoorMScanDecodesUptoCard6
import Derived.Lib.CountLaws
import Derived.Laws.MakeOwn
import Derived.Test.YtgmddhljgfbibaaGreatDoorMScanDecodesUptoCard11
import Derived.Test.YtgmddhljgfbibaaGreatDoorMScanDecodesUptoCard4
/- Splitting stuffed bytes: plain. -/
namespace Go.Proofs.YtgmddhljgfbibaaGreatDoor
set_option linter.unusedVariables false
set_option linter.unusedSimpArgs false
open Go.RowKit
/-- pieces, marks; none: an error -/
def spGo : List Nat → List (List Nat) → List Nat → List Nat → Option (List (List Nat) × List Nat)
  | [], P, M, c => some (P ++ [c], M)
  | [x], P, M, c => if x = 255 then none else some (P ++ [c ++ [x]], M)
  | x :: y :: r, P, M, c => if x = 255 then (if y = 255 then none else if y = 0 then spGo r P M (c ++ [255, 0]) else spGo r (P ++ [c]) (M ++ [y]) []) else spGo (y :: r) P M (c ++ [x])
theorem sp_end {bs : List Nat} {i : Nat} {P : List (List Nat)} {M c : List Nat} (h : bs.length ≤ i) : spGo (bs.drop i) P M c = some (P ++ [c], M) := by
  rw [List.drop_of_length_le h, spGo]
theorem sp_plain {bs : List Nat} {i : Nat} {P : List (List Nat)} {M c : List Nat} (h : i < bs.length) (hx : bs[i] ≠ 255) : spGo (bs.drop i) P M c = spGo (bs.drop (i + 1)) P M (c ++ [bs[i]]) := by
  rw [List.drop_eq_getElem_cons h]
  cases hd : bs.drop (i + 1) with
  | nil => simp [spGo, hx]
  | cons y r => simp [spGo, hx]
theorem sp_two {bs : List Nat} {i : Nat} {P : List (List Nat)} {M c : List Nat} (h : i + 1 < bs.length) (hx : bs[i] = 255) :
    spGo (bs.drop i) P M c = if bs[i + 1] = 255 then none else if bs[i + 1] = 0 then spGo (bs.drop (i + 2)) P M (c ++ [255, 0]) else spGo (bs.drop (i + 2)) (P ++ [c]) (M ++ [bs[i + 1]]) [] := by
  rw [List.drop_eq_getElem_cons (by omega), List.drop_eq_getElem_cons h, spGo, if_pos hx]
theorem sp_last {bs : List Nat} {i : Nat} {P : List (List Nat)} {M c : List Nat} (h : i + 1 = bs.length) (hx : bs[i]'(by omega) = 255) : spGo (bs.drop i) P M c = none := by
  rw [List.drop_eq_getElem_cons (by omega), List.drop_of_length_le (by omega), spGo, if_pos hx]
/-- every piece and every mark takes room in the bytes -/
theorem sp_len : ∀ (r : List Nat) (P : List (List Nat)) (M c : List Nat) (z : List (List Nat) × List Nat), spGo r P M c = some z → z.1.length ≤ P.length + r.length + 1 ∧ z.2.length ≤ M.length + r.length
  | [], P, M, c, z, h => by simp [spGo] at h; subst h; simp
  | [x], P, M, c, z, h => by
    simp only [spGo] at h
    split at h
    · cases h
    · simp at h; subst h; simp
  | x :: y :: r, P, M, c, z, h => by
    simp only [spGo] at h
    split at h
    · split at h
      · cases h
      · split at h
        · have := sp_len r P M (c ++ [255, 0]) z h
          simp only [List.length_cons]; omega
        · have := sp_len r (P ++ [c]) (M ++ [y]) [] z h
          simp only [List.length_append, List.length_cons, List.length_nil] at this ⊢; omega
    · have := sp_len (y :: r) P M (c ++ [x]) z h
      simp only [List.length_cons] at this ⊢; omega
/-- a slice of slices of bytes -/
def Pieces (w : World) (VS : List Value) (P : List (List Nat)) : Prop :=
  VS.length = P.length ∧ ∀ i (h : i < P.length), ∃ A c, VS[i]? = some (.slice A P[i].length c) ∧ SL w 1 (.slice A P[i].length c) P[i].length (bytesV P[i])
theorem Pieces.ext {w w' : World} {VS : List Value} {P : List (List Nat)} (h : Pieces w VS P) (hx : Ext w w') : Pieces w' VS P :=
  ⟨h.1, fun i hi => by obtain ⟨A, c, h1, h2⟩ := h.2 i hi; exact ⟨A, c, h1, h2.ext hx⟩⟩
theorem Pieces.snoc {w : World} {VS : List Value} {P : List (List Nat)} (h : Pieces w VS P) {A : Option Addr} {n c : Nat} {l : List Nat} (hn : l.length = n) (hs : SL w 1 (.slice A n c) n (bytesV l)) : Pieces w (VS ++ [.slice A n c]) (P ++ [l]) := by
  subst hn
  refine ⟨by simp [h.1], fun i hi => ?_⟩
  by_cases hlt : i < P.length
  · obtain ⟨B, d, h1, h2⟩ := h.2 i hlt
    refine ⟨B, d, ?_, ?_⟩
    · rw [List.getElem?_append_left (by rw [h.1]; exact hlt), h1, List.getElem_append_left hlt]
    · rw [List.getElem_append_left hlt]; exact h2
  · have e : i = P.length := by simp at hi; omega
    subst e
    refine ⟨A, c, ?_, ?_⟩
    · rw [List.getElem?_append_right (by rw [h.1]; exact Nat.le_refl _), h.1]; simp
    · simpa using hs
end Go.Proofs.YtgmddhljgfbibaaGreatDoor
/- Replacing in bytes, in plain words. -/
namespace Go.Proofs.YtgmddhljgfbibaaGreatDoor
set_option linter.unusedVariables false
set_option linter.unusedSimpArgs false
open Go.RowKit
/-- bytes as the library's laws have them -/
def b8 (s : List Nat) : List UInt8 := s.map UInt8.ofNat
theorem b8_len (s : List Nat) : (b8 s).length = s.length := by simp [b8]
theorem b8_drop (s : List Nat) (k : Nat) : b8 (s.drop k) = (b8 s).drop k := by simp [b8]
def ixN (s o : List Nat) : Int := Lib.index (b8 s) (b8 o)
def cntN (s o : List Nat) : Nat := Lib.count (b8 s) (b8 o)
/-- the first m places replaced -/
def replN : Nat → List Nat → List Nat → List Nat → List Nat
  | 0, s, _, _ => s
  | m + 1, s, o, v => s.take (ixN s o).toNat ++ (v ++ replN m (s.drop ((ixN s o).toNat + o.length)) o v)
theorem b8_nil {o : List Nat} (h : o ≠ []) : b8 o ≠ [] := by
  intro e
  have := congrArg List.length e
  rw [b8_len] at this
  exact h (List.eq_nil_of_length_eq_zero this)
theorem cnt_succ {s o : List Nat} {m : Nat} (ho : o ≠ []) (h : cntN s o = m + 1) : ∃ i : Nat, ixN s o = i ∧ i + o.length ≤ s.length ∧ cntN (s.drop (i + o.length)) o = m := by
  unfold cntN at h
  have hge := Lib.index_ge (b8 s) (b8 o)
  have hne : Lib.index (b8 s) (b8 o) ≠ -1 := fun e => by rw [Lib.count_miss e] at h; omega
  obtain ⟨i, hi⟩ : ∃ i : Nat, Lib.index (b8 s) (b8 o) = i := ⟨(Lib.index (b8 s) (b8 o)).toNat, by omega⟩
  have hr := Lib.index_room (b8 s) (b8 o) (by omega)
  rw [hi, b8_len, b8_len] at hr
  rw [Lib.count_hit (b8_nil ho) hi, b8_len] at h
  refine ⟨i, hi, by omega, ?_⟩
  unfold cntN
  rw [b8_drop]
  omega
theorem replN_len : ∀ (m : Nat) (s o v : List Nat), o ≠ [] → cntN s o = m → (replN m s o v).length + m * o.length = s.length + m * v.length
  | 0, s, o, v, _, _ => by simp [replN]
  | m + 1, s, o, v, ho, h => by
    obtain ⟨i, h1, h2, h3⟩ := cnt_succ ho h
    have ih := replN_len m _ o v ho h3
    rw [replN, h1, Int.toNat_natCast, List.length_append, List.length_append, List.length_take, Nat.min_eq_left (by omega), Nat.succ_mul, Nat.succ_mul]
    rw [List.length_drop] at ih
    omega
theorem cnt_room : ∀ (m : Nat) (s o : List Nat), o ≠ [] → cntN s o = m → m * o.length ≤ s.length
  | 0, s, o, _, _ => by simp
  | m + 1, s, o, ho, h => by
    obtain ⟨i, h1, h2, h3⟩ := cnt_succ ho h
    have ih := cnt_room m _ o ho h3
    rw [List.length_drop] at ih
    rw [Nat.succ_mul]
    omega
theorem ix_nil {o : List Nat} (ho : o ≠ []) : ixN [] o = -1 := by
  unfold ixN
  cases h : b8 o with
  | nil => exact absurd h (b8_nil ho)
  | cons => simp [b8, Lib.index]
theorem cnt_nil {o : List Nat} (ho : o ≠ []) : cntN [] o = 0 := Lib.count_miss (ix_nil ho)
theorem ix_here {s o : List Nat} (hp : (b8 o).isPrefixOf (b8 s) = true) : ixN s o = 0 := by
  unfold ixN
  cases s with
  | nil =>
    cases hq : b8 o with
    | nil => simp [b8, Lib.index]
    | cons => rw [hq] at hp; simp [b8] at hp
  | cons b l =>
    rw [show b8 (b :: l) = UInt8.ofNat b :: b8 l from rfl] at hp ⊢
    rw [Lib.index, if_pos hp]
theorem ix_skip {b : Nat} {l o : List Nat} (hp : (b8 o).isPrefixOf (b8 (b :: l)) = false) : ixN (b :: l) o = if ixN l o = -1 then -1 else ixN l o + 1 := by
  unfold ixN
  rw [show b8 (b :: l) = UInt8.ofNat b :: b8 l from rfl] at hp ⊢
  rw [Lib.index, hp]
  simp
theorem cnt_here {s o : List Nat} (ho : o ≠ []) (hp : (b8 o).isPrefixOf (b8 s) = true) : cntN s o = 1 + cntN (s.drop o.length) o := by
  unfold cntN
  rw [Lib.count_hit (i := 0) (b8_nil ho) (ix_here hp), b8_len, Nat.zero_add, b8_drop]
theorem cnt_skip {b : Nat} {l o : List Nat} (ho : o ≠ []) (hp : (b8 o).isPrefixOf (b8 (b :: l)) = false) : cntN (b :: l) o = cntN l o := by
  have h := ix_skip hp
  have hge := Lib.index_ge (b8 l) (b8 o)
  by_cases hm : ixN l o = -1
  · rw [if_pos hm] at h
    unfold cntN
    rw [Lib.count_miss h, Lib.count_miss hm]
  · rw [if_neg hm] at h
    obtain ⟨i, hi⟩ : ∃ i : Nat, ixN l o = i := ⟨(ixN l o).toNat, by unfold ixN at *; omega⟩
    rw [hi] at h
    unfold cntN
    rw [Lib.count_hit (i := i + 1) (b8_nil ho) (by have := h; unfold ixN at this; rw [this]; rfl), Lib.count_hit (i := i) (b8_nil ho) hi]
    rw [show b8 (b :: l) = UInt8.ofNat b :: b8 l from rfl, show i + 1 + (b8 o).length = (i + (b8 o).length) + 1 by omega, List.drop_succ_cons]
/-- all of them replaced -/
def replZ (s o v : List Nat) : List Nat := replN (cntN s o) s o v
theorem replZ_nil {o : List Nat} (ho : o ≠ []) (v : List Nat) : replZ [] o v = [] := by unfold replZ; rw [cnt_nil ho, replN]
theorem replZ_here {s o : List Nat} (ho : o ≠ []) (hp : (b8 o).isPrefixOf (b8 s) = true) (v : List Nat) : replZ s o v = v ++ replZ (s.drop o.length) o v := by
  unfold replZ
  rw [cnt_here ho hp, Nat.add_comm, replN, ix_here hp]
  simp
theorem replZ_skip {b : Nat} {l o : List Nat} (ho : o ≠ []) (hp : (b8 o).isPrefixOf (b8 (b :: l)) = false) (v : List Nat) : replZ (b :: l) o v = b :: replZ l o v := by
  unfold replZ
  rw [cnt_skip ho hp]
  cases hc : cntN l o with
  | zero => rfl
  | succ m =>
    obtain ⟨i, h1, h2, h3⟩ := cnt_succ ho hc
    have h := ix_skip hp
    rw [h1, if_neg (by omega)] at h
    rw [replN, replN, h, h1, show ((i : Int) + 1).toNat = i + 1 by omega, Int.toNat_natCast, List.take_succ_cons, show i + 1 + o.length = (i + o.length) + 1 by omega, List.drop_succ_cons]
    rfl
theorem u8_inj {a b : Nat} (ha : a < 256) (hb : b < 256) : (UInt8.ofNat a == UInt8.ofNat b) = decide (a = b) := by
  rw [Bool.eq_iff_iff, beq_iff_eq, decide_eq_true_iff]
  constructor
  · intro h
    have := congrArg UInt8.toNat h
    simp at this
    omega
  · rintro rfl; rfl
theorem pre1 {b : Nat} {l : List Nat} (y : Nat) (hy : y < 256) (hb : b < 256) : (b8 [y]).isPrefixOf (b8 (b :: l)) = decide (y = b) := by
  simp only [b8, List.map_cons, List.map_nil, List.isPrefixOf, Bool.and_true]
  exact u8_inj hy hb
theorem pre2 {b c : Nat} {l : List Nat} (y z : Nat) (hy : y < 256) (hz : z < 256) (hb : b < 256) (hc : c < 256) : (b8 [y, z]).isPrefixOf (b8 (b :: c :: l)) = (decide (y = b) && decide (z = c)) := by
  simp only [b8, List.map_cons, List.map_nil, List.isPrefixOf, Bool.and_true]
  rw [u8_inj hy hb, u8_inj hz hc]
theorem pre2_one {b : Nat} (y z : Nat) : (b8 [y, z]).isPrefixOf (b8 [b]) = false := by
  simp [b8, List.isPrefixOf]
/-- the library's count of one byte -/
theorem count_one : ∀ (s : List UInt8) (c : UInt8), Lib.count s [c] = s.count c := by
  have key : ∀ (n : Nat) (s : List UInt8) (c : UInt8), s.length ≤ n → Lib.count s [c] = s.count c := by
    intro n
    induction n with
    | zero =>
      intro s c h
      obtain rfl : s = [] := List.eq_nil_of_length_eq_zero (by omega)
      rfl
    | succ n ih =>
      intro s c h
      cases s with
      | nil => rfl
      | cons b l =>
        have hl : l.length ≤ n := by simpa using h
        by_cases hb : c = b
        · have hix : Lib.index (b :: l) [c] = ((0 : Nat) : Int) := by
            rw [Lib.index, if_pos (by simp [List.isPrefixOf, hb])]; rfl
          rw [Lib.count_hit (by simp) hix]
          rw [show (b :: l).drop (0 + [c].length) = l from rfl, ih l c hl, hb, List.count_cons_self]
          omega
        · rw [List.count_cons_of_ne (fun e => hb e.symm), ← ih l c hl]
          have hix : Lib.index (b :: l) [c] = if (Lib.index l [c] == -1) = true then -1 else Lib.index l [c] + 1 := by
            rw [Lib.index, if_neg (by simp [List.isPrefixOf, hb])]
          have hge := Lib.index_ge l [c]
          by_cases hm : Lib.index l [c] = -1
          · rw [hm] at hix
            rw [Lib.count_miss hix, Lib.count_miss hm]
          · obtain ⟨i, hi⟩ : ∃ i : Nat, Lib.index l [c] = i := ⟨(Lib.index l [c]).toNat, by omega⟩
            rw [if_neg (by simpa using hm), hi] at hix
            rw [Lib.count_hit (i := i + 1) (by simp) (by rw [hix]; rfl), Lib.count_hit (i := i) (by simp) hi]
            rfl
  exact fun s c => key s.length s c (Nat.le_refl _)
/-- stuffed bytes -/
def stuffZ (bs : List Nat) : List Nat := bs.flatMap fun b => if b = 255 then [255, 0] else [b]
theorem stuff_repl : ∀ (bs : List Nat), (∀ b ∈ bs, b < 256) → replZ bs [255] [255, 0] = stuffZ bs
  | [], _ => by rw [replZ_nil (by simp)]; rfl
  | b :: l, h => by
    have hb := h b (by simp)
    have ih := stuff_repl l (fun x hx => h x (by simp [hx]))
    have hp := pre1 (l := l) 255 (by omega) hb
    by_cases hq : b = 255
    · rw [replZ_here (by simp) (by rw [hp]; simp [hq])]
      rw [show (b :: l).drop [255].length = l from rfl, ih]
      simp [stuffZ, hq]
    · rw [replZ_skip (by simp) (by rw [hp]; simpa using fun e => hq e.symm), ih]
      simp [stuffZ, hq]
/-- plain bytes -/
def plZ : List Nat → Option (List Nat)
  | [] => some []
  | [b] => if b = 255 then none else some [b]
  | b :: c :: r => if b = 255 then (if c = 0 then (plZ r).map (255 :: ·) else none) else (plZ (c :: r)).map (b :: ·)
theorem plain_repl : ∀ (bs : List Nat) (z : List Nat), (∀ b ∈ bs, b < 256) → plZ bs = some z → replZ bs [255, 0] [255] = z
  | [], z, _, hz => by
    obtain rfl : [] = z := by simpa [plZ] using hz
    exact replZ_nil (by simp) _
  | [b], z, h, hz => by
    rw [plZ] at hz
    split at hz
    · cases hz
    · injection hz with hz
      rw [replZ_skip (by simp) (pre2_one _ _), replZ_nil (by simp), hz]
  | b :: c :: r, z, h, hz => by
    have hb := h b (by simp)
    have hc := h c (by simp)
    have hp := pre2 (l := r) 255 0 (by omega) (by omega) hb hc
    rw [plZ] at hz
    by_cases hq : b = 255
    · rw [if_pos hq] at hz
      by_cases h0 : c = 0
      · rw [if_pos h0] at hz
        rw [replZ_here (by simp) (by rw [hp]; simp [hq, h0])]
        cases hr : plZ r with
        | none => rw [hr] at hz; cases hz
        | some q =>
          rw [hr] at hz
          injection hz with hz
          rw [show (b :: c :: r).drop [255, 0].length = r from rfl, plain_repl r q (fun x hx => h x (by simp [hx])) hr, ← hz]
          rfl
      · rw [if_neg h0] at hz; cases hz
    · rw [if_neg hq] at hz
      rw [replZ_skip (by simp) (by rw [hp, decide_eq_false (fun e : 255 = b => hq e.symm)]; rfl)]
      cases hr : plZ (c :: r) with
      | none => rw [hr] at hz; cases hz
      | some q =>
        rw [hr] at hz
        injection hz with hz
        rw [plain_repl (c :: r) q (fun x hx => h x (by simp [hx])) hr, ← hz]
/-- Split's answer tells whether they are plain -/
theorem sp_plZ : ∀ (bs : List Nat) (P : List (List Nat)) (M c : List Nat), (M ≠ [] ∨ plZ bs = none → ∀ z, spGo bs P M c = some z → z.2 ≠ []) ∧ (M = [] → ∀ q, plZ bs = some q → ∃ z, spGo bs P M c = some (z, []))
  | [], P, M, c => by
    rw [spGo, plZ]
    refine ⟨fun h z hz => ?_, fun h q _ => ⟨_, by rw [h]⟩⟩
    injection hz with hz
    subst hz
    rcases h with h | h
    · exact h
    · cases h
  | [x], P, M, c => by
    rw [spGo, plZ]
    by_cases hx : x = 255
    · rw [if_pos hx, if_pos hx]
      exact ⟨fun _ z hz => (by cases hz), fun _ q hq => (by cases hq)⟩
    · rw [if_neg hx, if_neg hx]
      refine ⟨fun h z hz => ?_, fun h q _ => ⟨_, by rw [h]⟩⟩
      injection hz with hz
      subst hz
      rcases h with h | h
      · exact h
      · cases h
  | x :: y :: r, P, M, c => by
    rw [plZ, spGo]
    by_cases hx : x = 255
    · rw [if_pos hx, if_pos hx]
      by_cases h1 : y = 255
      · rw [if_pos h1, if_neg (by omega)]
        exact ⟨fun _ z hz => (by cases hz), fun _ q hq => (by cases hq)⟩
      · rw [if_neg h1]
        by_cases h0 : y = 0
        · rw [if_pos h0, if_pos h0]
          have ih := sp_plZ r P M (c ++ [255, 0])
          refine ⟨fun h z hz => ih.1 (h.imp_right fun h => ?_) z hz, fun h q hq => ?_⟩
          · cases hr : plZ r with
            | none => rfl
            | some q => rw [hr] at h; cases h
          · cases hr : plZ r with
            | none => rw [hr] at hq; cases hq
            | some q' => exact ih.2 h q' hr
        · rw [if_neg h0, if_neg h0]
          exact ⟨fun _ z hz => (sp_plZ r (P ++ [c]) (M ++ [y]) []).1 (.inl (by simp)) z hz, fun _ q hq => (by cases hq)⟩
    · rw [if_neg hx, if_neg hx]
      have ih := sp_plZ (y :: r) P M (c ++ [x])
      refine ⟨fun h z hz => ih.1 (h.imp_right fun h => ?_) z hz, fun h q hq => ?_⟩
      · cases hr : plZ (y :: r) with
        | none => rfl
        | some q => rw [hr] at h; cases h
      · cases hr : plZ (y :: r) with
        | none => rw [hr] at hq; cases hq
        | some q' => exact ih.2 h q' hr
theorem stuff_lt {bs : List Nat} (h : ∀ b ∈ bs, b < 256) : ∀ b ∈ stuffZ bs, b < 256 := by
  intro b hb
  unfold stuffZ at hb
  obtain ⟨x, hx, hb⟩ := List.mem_flatMap.1 hb
  have := h x hx
  split at hb
  · simp at hb; omega
  · simp at hb; omega
theorem stuff_len : ∀ (bs : List Nat), (stuffZ bs).length ≤ 2 * bs.length
  | [] => by simp [stuffZ]
  | b :: l => by
    have := stuff_len l
    unfold stuffZ at *
    rw [List.flatMap_cons, List.length_append, List.length_cons]
    split
    · rw [show [255, 0].length = 2 from rfl]; omega
    · rw [List.length_singleton]; omega
end Go.Proofs.YtgmddhljgfbibaaGreatDoor
/- Slicing a slice of bytes. -/
namespace Go.Proofs.YtgmddhljgfbibaaGreatDoor
set_option linter.unusedVariables false
set_option linter.unusedSimpArgs false
open Go.RowKit
theorem SL.sub {w : World} {A : Option Addr} {n c l h : Nat} {xs : List Value} (hs : SL w 1 (.slice A n c) n xs) (hl : l ≤ h) (hh : h ≤ n) :
    SL w 1 (.slice (if c = l then A else A.map (·.add l)) (h - l) (c - l)) (h - l) ((xs.drop l).take (h - l)) := by
  obtain ⟨A', c', e, h1, h2, h3, h4⟩ := hs
  injection e with e1 e2 e3
  subst e1 e3
  refine ⟨_, _, rfl, by omega, by omega, by simp; omega, fun h0 => ?_⟩
  obtain ⟨ad, rfl, hb, hc⟩ := h4 (by omega)
  rw [if_neg (by omega)]
  refine ⟨ad.add l, rfl, by rw [block_of_add]; exact hb, fun j u hu => ?_⟩
  rw [add_of_add]
  refine hc _ _ ?_
  have hj : j < h - l := by have := (List.getElem?_eq_some_iff.1 hu).1; simp at this; omega
  rwa [List.getElem?_take_of_lt hj, List.getElem?_drop] at hu
theorem run_sliceB (A : Option Addr) (n c l h : Nat) (hl : l ≤ h) (hh : h ≤ n) (hc : n ≤ c) (w : World) :
    (Instr.slice 28 (.slice A n c) (some (.int .i64 (l : Int))) (some (.int .i64 (h : Int))) none).run Tryz.prog w = .ok (.slice (if c = l then A else A.map (·.add l)) (h - l) (c - l)) w := by
  have e1 : ((l : Int) ≤ (h : Int)) := by omega
  have e2 : ((h : Int) ≤ (c : Int)) := by omega
  have e3 : l ≤ c := by omega
  go_simp
theorem run_sliceF (A : Option Addr) (n c l : Nat) (hh : l ≤ n) (hc : n ≤ c) (w : World) :
    (Instr.slice 28 (.slice A n c) (some (.int .i64 (l : Int))) none none).run Tryz.prog w = .ok (.slice (if c = l then A else A.map (·.add l)) (n - l) (c - l)) w := by
  have e1 : ((l : Int) ≤ (n : Int)) := by omega
  have e2 : ((n : Int) ≤ (c : Int)) := by omega
  have e3 : l ≤ c := by omega
  go_simp
section
variable {o : Oper} {a : Act}
theorem ex_sliceB {x lo hi : Operand} (ho : o.op = .slice 28 x (some lo) (some hi) none) {A : Option Addr} {n c l h : Nat} (hx : a.eval x = .slice A n c) (h1 : a.eval lo = .int .i64 (l : Int)) (h2 : a.eval hi = .int .i64 (h : Int)) (hl : l ≤ h) (hh : h ≤ n) (hc : n ≤ c) (w : World) :
    (execOp a.eval o).run Tryz.prog w = .ok (.value (.slice (if c = l then A else A.map (·.add l)) (h - l) (c - l))) w := by
  simp [execOp, ho, hx, h1, h2, Instr.sliceAt, Sem.run_bind, run_underlying Tryz.underlying28, run_sliceB A n c l h hl hh hc w]
theorem ex_sliceF {x lo : Operand} (ho : o.op = .slice 28 x (some lo) none none) {A : Option Addr} {n c l : Nat} (hx : a.eval x = .slice A n c) (h1 : a.eval lo = .int .i64 (l : Int)) (hh : l ≤ n) (hc : n ≤ c) (w : World) :
    (execOp a.eval o).run Tryz.prog w = .ok (.value (.slice (if c = l then A else A.map (·.add l)) (n - l) (c - l))) w := by
  simp [execOp, ho, hx, h1, Instr.sliceAt, Sem.run_bind, run_underlying Tryz.underlying28, run_sliceF A n c l hh hc w]
end
end Go.Proofs.YtgmddhljgfbibaaGreatDoor
/- make([]api.Block, n): a block of noughts. -/
namespace Go.Proofs.YtgmddhljgfbibaaGreatDoor
set_option linter.unusedVariables false
set_option linter.unusedSimpArgs false
open Go.RowKit
theorem madeCells_rep (k m : Nat) (hk : 0 < k) : madeCells (bv (List.replicate k 0)) m = bv (List.replicate m 0) := by
  apply Array.ext
  · rw [size_madeCells, bv_size, List.length_replicate]
  · intro i h1 h2
    have hm : i < m := by simpa [size_madeCells] using h1
    have h64 : i % k < k := Nat.mod_lt _ hk
    simp [madeCells, bv, ints, h64]
theorem infoBlk : ∃ i, Tryz.prog.info? 37 = some i ∧ i.zero = some (.agg (bv zeros64)) ∧ i.size = 64 ∧ i.bytes = 512 := by
  have h1 := size48
  have h2 := zero48
  have h3 : (Tryz.prog.info? 37).map (·.bytes) = some 512 := by kernel_rfl
  cases hq : Tryz.prog.info? 37 with
  | none => rw [hq] at h1; cases h1
  | some i =>
    rw [hq] at h1 h2 h3
    exact ⟨i, rfl, by simpa using h2, by simpa using h1, by simpa using h3⟩
theorem wpList_makeBlocks {ops : Array Oper} {rest : List Oper} {o : Oper} {a : Act} {w : World} {Q : Exit → Act → World → Prop} (hg : o.guard = none) (dst : Option Tmp) (hdst : o.dst = dst) (x y : Operand) (ho : o.op = .makeSlice 29 x y) (n : Nat) (hn : n ≤ 100000)
    (hx : a.eval x = .int .i64 (n : Int)) (hy : a.eval y = .int .i64 (n : Int))
    (h : ∀ w1 g, Blk w1 g 37 (bv (List.replicate (n * 64) 0)) → Ext w w1 → w.heap.size ≤ g → wpList Tryz.prog ops Q rest (a.put dst (.slice (some ⟨g, 0, none⟩) n n)) w1) : wpList Tryz.prog ops Q (o :: rest) a w := by
  subst hdst
  obtain ⟨i, hi, hz, hs, hb⟩ := infoBlk
  have hr := run_makeSlice (P := Tryz.prog) w 29 37 i (.agg (bv zeros64)) Tryz.underlying29 hi hz .i64 .i64 (n : Int) (n : Int) (by omega) (Int.le_refl _) (by rw [hs]; omega) (by rw [hb]; omega) (by omega)
  rw [Int.toNat_natCast, hs, show (Value.agg (bv zeros64)).cells = bv (List.replicate 64 0) from rfl, madeCells_rep 64 _ (by omega)] at hr
  refine wpList_plain hg fun _ hK => ?_
  unfold Oper.wp execOp
  simp only [ho, hx, hy, Sem.run_bind, hr, Result.andThen_ok, Sem.run_pure]
  exact hK _ _ (h _ _ (Blk.new w _ _) ((Ext.refl w).alloc _) (Nat.le_refl _))
end Go.Proofs.YtgmddhljgfbibaaGreatDoor
/- make([]int, n): a block of noughts. -/
namespace Go.Proofs.YtgmddhljgfbibaaGreatDoor
set_option linter.unusedVariables false
set_option linter.unusedSimpArgs false
open Go.RowKit
theorem infoInt : ∃ i, Tryz.prog.info? 3 = some i ∧ i.zero = some (.int .i64 0) ∧ i.size = 1 ∧ i.bytes = 8 := by
  have h1 : (Tryz.prog.info? 3).map (fun i => (i.zero, i.size, i.bytes)) = some (some (.int .i64 0), 1, 8) := by kernel_rfl
  cases hq : Tryz.prog.info? 3 with
  | none => rw [hq] at h1; cases h1
  | some i =>
    rw [hq] at h1
    simp at h1
    exact ⟨i, rfl, h1.1, h1.2.1, h1.2.2⟩
theorem wpList_makeInts {ops : Array Oper} {rest : List Oper} {o : Oper} {a : Act} {w : World} {Q : Exit → Act → World → Prop} (hg : o.guard = none) (dst : Option Tmp) (hdst : o.dst = dst) (x y : Operand) (ho : o.op = .makeSlice 23 x y) (n : Nat) (hn : n ≤ 1000000)
    (hx : a.eval x = .int .i64 (n : Int)) (hy : a.eval y = .int .i64 (n : Int))
    (h : ∀ w1 g, Blk w1 g 3 (bv (List.replicate n 0)) → Ext w w1 → w.heap.size ≤ g → wpList Tryz.prog ops Q rest (a.put dst (.slice (some ⟨g, 0, none⟩) n n)) w1) : wpList Tryz.prog ops Q (o :: rest) a w := by
  subst hdst
  obtain ⟨i, hi, hz, hs, hb⟩ := infoInt
  have hr := run_makeSlice (P := Tryz.prog) w 23 3 i (.int .i64 0) Tryz.underlying23 hi hz .i64 .i64 (n : Int) (n : Int) (by omega) (Int.le_refl _) (by rw [hs]; omega) (by rw [hb]; omega) (by omega)
  rw [Int.toNat_natCast, hs, show (Value.int .i64 0).cells = bv (List.replicate 1 0) from rfl, madeCells_rep 1 _ (by omega), Nat.mul_one] at hr
  refine wpList_plain hg fun _ hK => ?_
  unfold Oper.wp execOp
  simp only [ho, hx, hy, Sem.run_bind, hr, Result.andThen_ok, Sem.run_pure]
  exact hK _ _ (h _ _ (Blk.new w _ _) ((Ext.refl w).alloc _) (Nat.le_refl _))
end Go.Proofs.YtgmddhljgfbibaaGreatDoor
/- bits.Reader: Left, Get, NewReader. -/
namespace Go.Proofs.YtgmddhljgfbibaaGreatDoor
set_option linter.unusedVariables false
set_option linter.unusedSimpArgs false
open Go.RowKit
section
variable {o : Oper} {a : Act}
theorem run_loadSl (W : World) (p : Addr) (A : Option Addr) (n c : Nat) (h : W.cell? p = some (.slice A n c)) : (Instr.loadAt 28 (.pointer (some p))).run Tryz.prog W = .ok (.slice A n c) W := by
  go_simp
theorem run_loadU (W : World) (p : Addr) (z : Int) (h : W.cell? p = some (.int .u8 z)) : (Instr.loadAt 5 (.pointer (some p))).run Tryz.prog W = .ok (.int .u8 z) W := by
  go_simp
theorem ex_loadS {x : Operand} (ho : o.op = .load 28 x) {p : Addr} (hx : a.eval x = .pointer (some p)) {A : Option Addr} {n c : Nat} {w : World} (h : w.cell? p = some (.slice A n c)) : (execOp a.eval o).run Tryz.prog w = .ok (.value (.slice A n c)) w := by
  simp [execOp, ho, hx, run_loadSl w p A n c h]
theorem ex_loadU {x : Operand} (ho : o.op = .load 5 x) {p : Addr} (hx : a.eval x = .pointer (some p)) {z : Int} {w : World} (h : w.cell? p = some (.int .u8 z)) : (execOp a.eval o).run Tryz.prog w = .ok (.value (.int .u8 z)) w := by
  simp [execOp, ho, hx, run_loadU w p z h]
theorem run_conv8 (y : Nat) (h : y < 256) (W : World) : (convert 5 3 (.int .u8 (y : Int))).run Tryz.prog W = .ok (.int .i64 (y : Int)) W := by
  have e : IntKind.i64.wrap (y : Int) = (y : Int) := IntWalk.i64_in _ (by omega)
  go_simp
theorem ex_conv {P : Program} {x : Operand} {t u : TypeId} (ho : o.op = .convert t u x) {v v' : Value} (hx : a.eval x = v) (hr : ∀ w, (convert t u v).run P w = .ok v' w) (w : World) : (execOp a.eval o).run P w = .ok (.value v') w := by
  simp [execOp, ho, hx, hr]
end
/-- a reader at bit p of the bytes bs -/
def RdS (w : World) (gr : Nat) (A : Option Addr) (n c p : Nat) (bs : List Nat) : Prop :=
  Blk w gr 106 #[.slice A n c, .int .i64 (p : Int)] ∧ SL w 1 (.slice A n c) n (bytesV bs) ∧ bs.length = n ∧ (0 < n → ∀ ad, A = some ad → ad.block < gr) ∧ (∀ b ∈ bs, b < 256) ∧ n ≤ 100000000000 ∧ p ≤ 8 * n
theorem RdS.cells {w : World} {gr : Nat} {A : Option Addr} {n c p : Nat} {bs : List Nat} (h : RdS w gr A n c p bs) : w.cell? ⟨gr, 0, none⟩ = some (.slice A n c) ∧ w.cell? ⟨gr, 1, none⟩ = some (.int .i64 (p : Int)) := by
  have h0 := h.1.cell 0
  have h1 := h.1.cell 1
  exact ⟨h0, h1⟩
theorem RdS.ext {w w' : World} {gr : Nat} {A : Option Addr} {n c p : Nat} {bs : List Nat} (h : RdS w gr A n c p bs) (hx : Ext w w') : RdS w' gr A n c p bs :=
  ⟨h.1.ext hx, h.2.1.ext hx, h.2.2⟩
theorem SL.upd0 {S : Nat → Prop} {w w' : World} {size n c : Nat} {A : Option Addr} {xs : List Value} (h : SL w size (.slice A n c) n xs) (hu : Upd S w w') (hS : 0 < n → ∀ ad, A = some ad → ¬ S ad.block) : SL w' size (.slice A n c) n xs := by
  by_cases h0 : 0 < n
  · exact h.upd hu (hS h0)
  · obtain ⟨A', c', e1, h1, h2, h3, h4⟩ := h
    exact ⟨A', c', e1, h1, h2, h3, fun hn => absurd hn h0⟩
theorem RdS.upd {S : Nat → Prop} {w w' : World} {gr : Nat} {A : Option Addr} {n c p : Nat} {bs : List Nat} (h : RdS w gr A n c p bs) (hu : Upd S w w') (hS : ∀ x, S x → gr < x) : RdS w' gr A n c p bs :=
  ⟨hu.blk h.1 (fun e => by have := hS _ e; omega), h.2.1.upd0 hu (fun h0 ad e e2 => by have := hS _ e2; have := h.2.2.2.1 h0 ad e; omega), h.2.2⟩
theorem own_upd {S : Nat → Prop} {w w' : World} {base : Nat} {e : TypeId} {size n : Nat} {v : Value} {xs : List Value} (h : w.ownsRow base e size v n xs) (hu : Upd S w w') (hS : ∀ x, S x → x < base) : w'.ownsRow base e size v n xs := by
  obtain ⟨hl, hh⟩ := h
  refine ⟨hl, ?_⟩
  rcases hh with ⟨rfl, rfl⟩ | ⟨g, cap, cur, rfl, h1, hg, h2⟩
  · exact .inl ⟨rfl, rfl⟩
  · exact .inr ⟨g, cap, cur, rfl, h1, (hu.block g (Blk.lt (w := w) (t := e) (cs := cur) hg) (fun hx => by have := hS g hx; omega)).trans hg, h2⟩
theorem RdS.drew {w : World} {gr : Nat} {A : Option Addr} {n c p : Nat} {bs : List Nat} (h : RdS w gr A n c p bs) : RdS w.drew gr A n c p bs := h
set_option maxRecDepth 20000 in
set_option maxHeartbeats 1000000 in
theorem left_any (gr : Nat) (A : Option Addr) (n c p : Nat) (bs : List Nat) (w : World) (h : RdS w gr A n c p bs) :
    Calls Tryz.prog 27 #[.pointer (some ⟨gr, 0, none⟩)] w fun e w' => e = .returned (.int .i64 ((8 * n - p : Nat) : Int)) ∧ Ext w w' := by
  have hn : n ≤ 100000000000 := h.2.2.2.2.2.1
  have hp : p ≤ 8 * n := h.2.2.2.2.2.2
  have HC0 : ∀ W, Ext w.drew W → W.cell? ⟨gr, 0, none⟩ = some (.slice A n c) := fun W hx => (h.drew.ext hx).cells.1
  have HC1 : ∀ W, Ext w.drew W → W.cell? ⟨gr, 1, none⟩ = some (.int .i64 (p : Int)) := fun W hx => (h.drew.ext hx).cells.2
  go_enter Tryz.func27, Tryz.ntmps27
  go_wp2_with fail
  refine wp_region_lx later_ext (by kernel_rfl) (by kernel_rfl) ?_
  refine lx_run (by rfl) (.pointer (some ⟨gr, 0, none⟩)) (ex_move rfl rfl) ?_
  simp only [Act.put, List.setIfInBounds_toArray, List.set_cons_succ, List.set_cons_zero]
  refine lx_run (by rfl) (.pointer (some ⟨gr, 0, none⟩)) (ex_nil rfl rfl) ?_
  simp only [Act.put, List.setIfInBounds_toArray, List.set_cons_succ, List.set_cons_zero]
  refine lx_run (by rfl) (.pointer (some ⟨gr, 0, none⟩)) (fun W => by go_simp) ?_
  simp only [Act.put, List.setIfInBounds_toArray, List.set_cons_succ, List.set_cons_zero]
  refine lx_read (by rfl) (.slice A n c) (fun W hW => ex_loadS rfl rfl (HC0 W hW)) ?_
  simp only [Act.put, List.setIfInBounds_toArray, List.set_cons_succ, List.set_cons_zero]
  refine lx_run (by rfl) (.int .i64 ((n : Nat) : Int)) (fun W => by go_simp) ?_
  simp only [Act.put, List.setIfInBounds_toArray, List.set_cons_succ, List.set_cons_zero]
  refine lx_run (by rfl) (.int .i64 ((8 * n : Nat) : Int)) (ex_mulN (i := 8) (d := n) rfl rfl rfl (by omega)) ?_
  simp only [Act.put, List.setIfInBounds_toArray, List.set_cons_succ, List.set_cons_zero]
  refine lx_run (by rfl) (.pointer (some ⟨gr, 0, none⟩)) (ex_move rfl rfl) ?_
  simp only [Act.put, List.setIfInBounds_toArray, List.set_cons_succ, List.set_cons_zero]
  refine lx_run (by rfl) (.pointer (some ⟨gr, 0, none⟩)) (ex_nil rfl rfl) ?_
  simp only [Act.put, List.setIfInBounds_toArray, List.set_cons_succ, List.set_cons_zero]
  refine lx_run (by rfl) (.pointer (some ⟨gr, 1, none⟩)) (fun W => by go_simp) ?_
  simp only [Act.put, List.setIfInBounds_toArray, List.set_cons_succ, List.set_cons_zero]
  refine lx_read (by rfl) (.int .i64 ((p : Nat) : Int)) (fun W hW => ex_loadI rfl rfl (HC1 W hW)) ?_
  simp only [Act.put, List.setIfInBounds_toArray, List.set_cons_succ, List.set_cons_zero]
  refine lx_run (by rfl) (.int .i64 (((8 * n) - p : Nat) : Int)) (ex_subN (i := 8 * n) (d := p) rfl rfl rfl (by omega) (by omega)) ?_
  simp only [Act.put, List.setIfInBounds_toArray, List.set_cons_succ, List.set_cons_zero]
  refine lx_run (by rfl) (.int .i64 (((8 * n) - p : Nat) : Int)) (ex_assign rfl rfl) ?_
  simp only [Act.put, List.setIfInBounds_toArray, List.set_cons_succ, List.set_cons_zero]
  refine lx_nil ?_
  intro w9 hx9
  go_wp2_with fail
  go_ret
  exact ⟨rfl, (Ext.refl w).drew.trans hx9⟩
theorem bytes_at {bs : List Nat} {k : Nat} {u : Value} (h : (bytesV bs)[k]? = some u) : ∃ hk : k < bs.length, u = .int .u8 ((bs[k] : Nat) : Int) := by
  unfold bytesV at h
  rw [List.getElem?_map] at h
  obtain ⟨z, hz, rfl⟩ := Option.map_eq_some_iff.1 h
  obtain ⟨hk, rfl⟩ := List.getElem?_eq_some_iff.1 hz
  exact ⟨hk, rfl⟩
set_option maxRecDepth 20000 in
set_option maxHeartbeats 1000000 in
theorem get_no (gr : Nat) (A : Option Addr) (n c p : Nat) (bs : List Nat) (width : Nat) (w : World) (h : RdS w gr A n c p bs) (hw : 8 * n < p + width) (hw2 : width ≤ 1000) :
    Calls Tryz.prog 28 #[.pointer (some ⟨gr, 0, none⟩), .int .i64 (width : Int)] w fun e w' => e = .returned (.tuple #[.int .i64 0, .bool false]) ∧ Ext w w' := by
  have hn : n ≤ 100000000000 := h.2.2.2.2.2.1
  have hp : p ≤ 8 * n := h.2.2.2.2.2.2
  have HL := hid_ (fun W h => left_any gr A n c p bs W h)
  generalize hl : 8 * n - p = l at *
  have hlw : l < width := by omega
  go_enter Tryz.func28, Tryz.ntmps28
  go_wp2_with (go_at_call 27; (with_reducible refine (HL.out _ h).mono ?_); rintro e w2 ⟨rfl, hx2⟩)
  go_ret2
  exact ⟨rfl, hx2⟩
set_option maxRecDepth 20000 in
set_option maxHeartbeats 1000000 in
theorem get_yes (gr : Nat) (A : Option Addr) (n c p : Nat) (bs : List Nat) (width : Nat) (w : World) (h : RdS w gr A n c p bs) (hw : p + width ≤ 8 * n) (hw2 : width ≤ 24) :
    Calls Tryz.prog 28 #[.pointer (some ⟨gr, 0, none⟩), .int .i64 (width : Int)] w fun e w' =>
      e = .returned (.tuple #[.int .i64 ((numB (((digsOf bs).drop p).take width) : Nat) : Int), .bool true]) ∧ RdS w' gr A n c (p + width) bs ∧ Upd (fun x => x = gr) w w' := by
  have hn : n ≤ 100000000000 := h.2.2.2.2.2.1
  have hp : p ≤ 8 * n := h.2.2.2.2.2.2
  have hbl := h.2.2.1
  have HB := hid_ h.2.2.2.2.1
  have hne := h.2.2.2.1
  have HD := hid_ (digsOf_len bs)
  have HL := hid_ (fun W h => left_any gr A n c p bs W h)
  have HNX := hid_ (fun i h1 h2 => numB_next bs p i h1 h2)
  have HLT := hid_ (fun i (h1 : i ≤ 24) => numB_take_lt ((digsOf bs).drop p) i 24 h1)
  generalize hl : 8 * n - p = l at *
  have hlw : ¬ l < width := by omega
  go_enter Tryz.func28, Tryz.ntmps28
  go_wp2_with (go_at_call 27; (with_reducible refine (HL.out _ h).mono ?_); rintro e w2 ⟨rfl, hx2⟩)
  have h2 := h.ext hx2
  go_loopw [6, 12] (fun v i wr => ∃ k : Nat, k ≤ width ∧ i = .int .i64 (k : Int) ∧ v = .int .i64 ((numB (((digsOf bs).drop p).take k) : Nat) : Int) ∧ RdS wr gr A n c (p + k) bs ∧ Upd (fun x => x = gr) w wr) (fun _ i _ => width - (intOf i).toNat)
  case atStart => exact ⟨0, by omega, rfl, by simp [numB], h2, Upd.of_ext hx2⟩
  case round =>
    obtain ⟨k, hk, rfl, rfl, hr, hu⟩ := hrel
    by_cases hlt : k < width
    · obtain ⟨q, hq⟩ : ∃ q, q = p + k := ⟨_, rfl⟩
      rw [← hq] at hr
      have hq8 : q / 8 < n := by omega
      have hqm : q % 8 < 8 := by omega
      obtain ⟨ad, u, rfl, hab, hxk, hcell⟩ := hr.2.1.at1 hq8
      obtain ⟨hkl, rfl⟩ := bytes_at hxk
      have HN2 := hid_ (HNX.out k (by have := HD.out; omega) (by rw [← hq]; exact hkl))
      have hx : bs[q / 8] < 256 := HB.out _ (List.getElem_mem hkl)
      have hm0 := HLT.out k (by omega)
      have HEQ : Hid (bs[(p + k) / 8]'(by rw [← hq]; exact hkl) = bs[q / 8]) := hid_ (by congr 2; omega)
      rw [HEQ.out, ← hq] at HN2
      clear HEQ
      generalize bs[q / 8] = x at *
      obtain ⟨s, hs⟩ : ∃ s, s = 7 - q % 8 := ⟨_, rfl⟩
      have HS : Hid (7 - q % 8 = s) := hid_ hs.symm
      have s8 : s < 8 := by omega
      rw [HS.out] at HN2
      have hy : x / 2 ^ s < 256 := by have := Nat.div_le_self x (2 ^ s); omega
      have hb : x / 2 ^ s % 2 < 256 := by omega
      have hb2 : x / 2 ^ s % 2 < 2 := by omega
      generalize hmm : numB (((digsOf bs).drop p).take k) = m at *
      have hm : m < 1099511627776 := by omega
      clear hmm hxk hs
      have HC0 : ∀ W, Ext wr.drew W → W.cell? ⟨gr, 0, none⟩ = some (.slice (some ad) n c) := fun W hx => (hr.drew.ext hx).cells.1
      have HC1 : ∀ W, Ext wr.drew W → W.cell? ⟨gr, 1, none⟩ = some (.int .i64 (q : Int)) := fun W hx => (hr.drew.ext hx).cells.2
      have HCX : ∀ W, Ext wr.drew W → W.cell? (ad.add (q / 8 * 1)) = some (.int .u8 ((x : Nat) : Int)) := fun W hxx => by
        rw [Nat.mul_one]
        exact (hxx.cell (by rw [block_of_add]; exact hab)).trans hcell
      clear hcell
      go_wp2_with fail
      refine wp_region_lx later_ext (by kernel_rfl) (by kernel_rfl) ?_
      refine lx_run (by rfl) (.int .i64 ((m : Nat) : Int)) (ex_move rfl rfl) ?_
      simp only [Act.put, List.setIfInBounds_toArray, List.set_cons_succ, List.set_cons_zero]
      refine lx_run (by rfl) (.int .i64 ((2 * m : Nat) : Int)) (ex_binK (k := .i64) (m := (m : Int)) (k' := .u64) (n := 1) rfl rfl rfl (run_shl_one m hm)) ?_
      simp only [Act.put, List.setIfInBounds_toArray, List.set_cons_succ, List.set_cons_zero]
      refine lx_run (by rfl) (.pointer (some ⟨gr, 0, none⟩)) (ex_move rfl rfl) ?_
      simp only [Act.put, List.setIfInBounds_toArray, List.set_cons_succ, List.set_cons_zero]
      refine lx_run (by rfl) (.pointer (some ⟨gr, 0, none⟩)) (ex_nil rfl rfl) ?_
      simp only [Act.put, List.setIfInBounds_toArray, List.set_cons_succ, List.set_cons_zero]
      refine lx_run (by rfl) (.pointer (some ⟨gr, 0, none⟩)) (fun W => by go_simp) ?_
      simp only [Act.put, List.setIfInBounds_toArray, List.set_cons_succ, List.set_cons_zero]
      refine lx_read (by rfl) (.slice (some ad) n c) (fun W hW => ex_loadS rfl rfl (HC0 W hW)) ?_
      simp only [Act.put, List.setIfInBounds_toArray, List.set_cons_succ, List.set_cons_zero]
      refine lx_run (by rfl) (.pointer (some ⟨gr, 0, none⟩)) (ex_move rfl rfl) ?_
      simp only [Act.put, List.setIfInBounds_toArray, List.set_cons_succ, List.set_cons_zero]
      refine lx_run (by rfl) (.pointer (some ⟨gr, 0, none⟩)) (ex_nil rfl rfl) ?_
      simp only [Act.put, List.setIfInBounds_toArray, List.set_cons_succ, List.set_cons_zero]
      refine lx_run (by rfl) (.pointer (some ⟨gr, 1, none⟩)) (fun W => by go_simp) ?_
      simp only [Act.put, List.setIfInBounds_toArray, List.set_cons_succ, List.set_cons_zero]
      refine lx_read (by rfl) (.int .i64 ((q : Nat) : Int)) (fun W hW => ex_loadI rfl rfl (HC1 W hW)) ?_
      simp only [Act.put, List.setIfInBounds_toArray, List.set_cons_succ, List.set_cons_zero]
      refine lx_run (by rfl) (.int .i64 ((q / 8 : Nat) : Int)) (ex_quoN (i := q) (d := 8) rfl rfl rfl (by omega) (by omega)) ?_
      simp only [Act.put, List.setIfInBounds_toArray, List.set_cons_succ, List.set_cons_zero]
      refine lx_run (by rfl) (.pointer (some (ad.add ((q / 8) * 1)))) (ex_ixSl Tryz.underlying28 sizeU8' rfl rfl rfl hq8) ?_
      simp only [Act.put, List.setIfInBounds_toArray, List.set_cons_succ, List.set_cons_zero]
      refine lx_read (by rfl) (.int .u8 ((x : Nat) : Int)) (fun W hW => ex_loadU rfl rfl (HCX W hW)) ?_
      simp only [Act.put, List.setIfInBounds_toArray, List.set_cons_succ, List.set_cons_zero]
      refine lx_run (by rfl) (.pointer (some ⟨gr, 0, none⟩)) (ex_move rfl rfl) ?_
      simp only [Act.put, List.setIfInBounds_toArray, List.set_cons_succ, List.set_cons_zero]
      refine lx_run (by rfl) (.pointer (some ⟨gr, 0, none⟩)) (ex_nil rfl rfl) ?_
      simp only [Act.put, List.setIfInBounds_toArray, List.set_cons_succ, List.set_cons_zero]
      refine lx_run (by rfl) (.pointer (some ⟨gr, 1, none⟩)) (fun W => by go_simp) ?_
      simp only [Act.put, List.setIfInBounds_toArray, List.set_cons_succ, List.set_cons_zero]
      refine lx_read (by rfl) (.int .i64 ((q : Nat) : Int)) (fun W hW => ex_loadI rfl rfl (HC1 W hW)) ?_
      simp only [Act.put, List.setIfInBounds_toArray, List.set_cons_succ, List.set_cons_zero]
      refine lx_run (by rfl) (.int .i64 ((q % 8 : Nat) : Int)) (ex_remN (i := q) (d := 8) rfl rfl rfl (by omega) (by omega)) ?_
      simp only [Act.put, List.setIfInBounds_toArray, List.set_cons_succ, List.set_cons_zero]
      refine lx_run (by rfl) (.int .i64 ((s : Nat) : Int)) (by rw [← HS.out]; exact ex_subN (i := 7) (d := q % 8) rfl rfl rfl (by omega) (by omega)) ?_
      simp only [Act.put, List.setIfInBounds_toArray, List.set_cons_succ, List.set_cons_zero]
      refine lx_run (by rfl) (.int .u8 ((x / 2 ^ s : Nat) : Int)) (ex_binK (k := .u8) (m := (x : Int)) (k' := .i64) (n := (s : Int)) rfl rfl rfl (run_shr8 x s hx s8)) ?_
      simp only [Act.put, List.setIfInBounds_toArray, List.set_cons_succ, List.set_cons_zero]
      refine lx_run (by rfl) (.int .u8 ((x / 2 ^ s % 2 : Nat) : Int)) (ex_binK (k := .u8) (m := ((x / 2 ^ s : Nat) : Int)) (k' := .u8) (n := 1) rfl rfl rfl (run_and8 (x / 2 ^ s) hy)) ?_
      simp only [Act.put, List.setIfInBounds_toArray, List.set_cons_succ, List.set_cons_zero]
      refine lx_run (by rfl) (.int .i64 ((x / 2 ^ s % 2 : Nat) : Int)) (ex_conv rfl rfl (run_conv8 (x / 2 ^ s % 2) hb)) ?_
      simp only [Act.put, List.setIfInBounds_toArray, List.set_cons_succ, List.set_cons_zero]
      refine lx_run (by rfl) (.int .i64 ((2 * m + x / 2 ^ s % 2 : Nat) : Int)) (ex_binK (k := .i64) (m := ((2 * m : Nat) : Int)) (k' := .i64) (n := ((x / 2 ^ s % 2 : Nat) : Int)) rfl rfl rfl (run_or2 m (x / 2 ^ s % 2) hm hb2)) ?_
      simp only [Act.put, List.setIfInBounds_toArray, List.set_cons_succ, List.set_cons_zero]
      refine lx_run (by rfl) (.int .i64 ((2 * m + x / 2 ^ s % 2 : Nat) : Int)) (ex_assign rfl rfl) ?_
      simp only [Act.put, List.setIfInBounds_toArray, List.set_cons_succ, List.set_cons_zero]
      refine lx_nil ?_
      intro w9 hx9
      have hr9 := hr.drew.ext hx9
      have hc1 := hr9.cells.2
      have hf1 := hr9.1.frozen 1
      have hb9 := hr9.1.set_ 1 (.int .i64 ((q : Int) + 1))
      simp at hb9
      have hu9 := (hu.trans (Upd.of_ext (S := fun x => x = gr) ((Ext.refl wr).drew.trans hx9)) (fun x hx => .inl hx)).setCell (p := ⟨gr, 1, none⟩) rfl (.int .i64 ((q : Int) + 1))
      have hs9 := hr9.2.1.upd (S := fun x => x = gr) ((Upd.refl (fun x => x = gr) w9).setCell (p := ⟨gr, 1, none⟩) rfl (.int .i64 ((q : Int) + 1))) (fun ad h e => by have := hr9.2.2.2.1 (by omega) ad h; omega)
      have hrest := hr9.2.2
      have HQ := hid_ hq
      have hq9 : q + 1 ≤ 8 * n := by omega
      have hqq : q + 1 = p + (k + 1) := by omega
      generalize hm2 : 2 * m + x / 2 ^ s % 2 = m2 at *
      clear hq hm2
      go_wp2_with fail
      go_roundw
      case rel =>
        refine ⟨k + 1, by omega, by go_num, by rw [HN2.out], ?_, hu9⟩
        rw [← hqq]
        exact ⟨by exact_mod_cast hb9, hs9, hrest.1, hrest.2.1, hrest.2.2.1, hrest.2.2.2.1, hq9⟩
      case measure => simp [intOf]; omega
    · have e1 : k = width := by omega
      rw [e1] at hr ⊢
      clear e1 hk hlt
      go_wp2_with fail
      go_ret2
      exact ⟨rfl, hr, hu⟩
theorem newReader_any (A : Option Addr) (n c : Nat) (bs : List Nat) (w : World) (h : SL w 1 (.slice A n c) n (bytesV bs)) (hl : bs.length = n) (hb : ∀ b ∈ bs, b < 256) (hn : n ≤ 100000000000) :
    Calls Tryz.prog 25 #[.slice A n c] w fun e w' => ∃ gr, e = .returned (.pointer (some ⟨gr, 0, none⟩)) ∧ RdS w' gr A n c 0 bs ∧ Ext w w' ∧ w.heap.size = gr ∧ gr < w'.heap.size := by
  go_enter Tryz.func25, Tryz.ntmps25
  go_wp2_with fail
  go_ret
  refine ⟨_, rfl, ⟨Blk.new _ _ _, h.ext ((Ext.refl w).alloc _), hl, fun h0 ad e => ?_, hb, hn, by omega⟩, (Ext.refl w).alloc _, by omega, by simp⟩
  obtain ⟨A', c', e1, -, -, -, h4⟩ := h
  injection e1 with e1 e2 e3
  obtain ⟨ad', e4, h5, -⟩ := h4 h0
  rw [e, e4] at e1
  injection e1 with e1
  rw [e1]; exact h5
end Go.Proofs.YtgmddhljgfbibaaGreatDoor
