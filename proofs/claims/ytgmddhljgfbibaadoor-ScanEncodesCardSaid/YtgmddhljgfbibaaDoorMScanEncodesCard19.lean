/- Contracts for the law ScanEncodesCard, part 19: what the functions that it reaches answer, for all arguments that the theorems name. -/
import Derived.Test.YtgmddhljgfbibaaDoorMScanEncodesCard18
import Derived.Test.YtgmddhljgfbibaaDoorMScanEncodesCard10
import Derived.Test.YtgmddhljgfbibaaDoorMScanEncodesCard14
import Derived.Test.YtgmddhljgfbibaaDoorMScanEncodesCard5
import Derived.Test.YtgmddhljgfbibaaDoorMScanEncodesCard4
import Derived.Test.YtgmddhljgfbibaaDoorMScanEncodesCard15
import Derived.Test.YtgmddhljgfbibaaDoorMScanEncodesCard12
import Derived.Test.YtgmddhljgfbibaaDoorMScanEncodesCard8
import Derived.Deep.Cut
/- scan.Spans. -/
namespace Go.Proofs.YtgmddhljgfbibaaDoor
set_option linter.unusedVariables false
set_option linter.unusedSimpArgs false
open Go.RowKit
theorem elt_span : Elt Tryd.prog 106 109 2 16 := ⟨Tryd.underlying106, by kernel_rfl, by omega⟩
theorem sizeSpan : (Tryd.prog.info? 109).map (·.size) = some 2 := by kernel_rfl
theorem zeroSpan : (Tryd.prog.info? 109).bind (·.zero) = some (.agg (bv [0, 0])) := by kernel_rfl
theorem zeroSpan' : ((Tryd.prog.info? 109).bind (·.zero)).isSome = true := by rw [zeroSpan]; rfl
theorem builtSpan (x y : Int) : Tryd.prog.built 109 [(0, .int .i64 x), (1, .int .i64 y)] = some (bv [x, y]) := by
  show _ = _
  kernel_rfl
theorem blk_slG {w : World} {g sz : Nat} {t : TypeId} {zs : List Int} (h : Blk w g t (bv zs)) (hz : zs.length = sz) : SL w sz (.slice (some ⟨g, 0, none⟩) 1 1) 1 (ints zs) := by
  have := h.sl (size := sz) (n := 1) (c := 1) (by rw [bv_size, hz]; omega) (by omega) (by omega)
  simpa [bv] using this
attribute [local irreducible] bv spansL cutE cutK
set_option maxRecDepth 20000 in
set_option maxHeartbeats 2000000 in
theorem spans_any (n e : Nat) (hn : n ≤ 1000000) (he : e ≤ 1000000) (w : World) :
    Calls Tryd.prog 50 #[.int .i64 (n : Int), .int .i64 (e : Int)] w fun en w' => ∃ B d, en = .returned (.slice B (cutK n e) d) ∧ SL w' 2 (.slice B (cutK n e) d) (cutK n e) (ints (spansL n e (cutK n e))) ∧ Ext w w' := by
  by_cases h : e = 0 ∨ n = 0
  · obtain ⟨hE, hK⟩ := cut_whole h
    have hL : spansL n e 1 = [0, (n : Int)] := by
      simp only [spansL, List.nil_append, hE]
      simp
    rw [hK, hL]
    have hs : Hid ((bv [0, (n : Int)]).size = 2) := hid_ (by rw [bv_size]; rfl)
    clear hE hK hL
    by_cases h0 : e = 0
    · have H8 : Hid (decide ((e : Int) = 0) = true) := hid_ (by rw [decide_eq_true_eq]; omega)
      clear h h0
      go_enter Tryd.func50, Tryd.ntmps50
      go_wp2_with (first
        | (show wpList _ _ _ (⟨some 8, _, _, _, _, _⟩ :: _) _ _; refine wl_run rfl (.bool true) (ex_eql rfl rfl rfl H8.out) ?_)
        | (show wpList _ _ _ (⟨some 14, _, _, _, _, _⟩ :: _) _ _; refine wl_run rfl (.agg (bv [0, (n : Int)])) (ex_build2 rfl rfl rfl (builtSpan _ _)) ?_)
        | (show wpList _ _ _ (⟨some 15, _, _, _, _, _⟩ :: _) _ _; refine wpList_lit1 rfl 106 109 (.tmp 14) rfl (some 15) rfl Tryd.underlying106 2 sizeSpan zeroSpan' _ rfl hs.out (by omega) (by omega) ?_; intro w1 g hb1 hx1 hg1))
      go_ret
      exact ⟨_, _, rfl, blk_slG hb1 rfl, hx1⟩
    · have H8 : Hid (decide ((e : Int) = 0) = false) := hid_ (by rw [decide_eq_false_iff_not]; omega)
      have H11 : Hid (decide ((n : Int) = 0) = true) := hid_ (by rw [decide_eq_true_eq]; omega)
      clear h h0
      go_enter Tryd.func50, Tryd.ntmps50
      go_wp2_with (first
        | (show wpList _ _ _ (⟨some 8, _, _, _, _, _⟩ :: _) _ _; refine wl_run rfl (.bool false) (ex_eql rfl rfl rfl H8.out) ?_)
        | (show wpList _ _ _ (⟨some 11, _, _, _, _, _⟩ :: _) _ _; refine wl_run_g (by rfl) (.bool true) (ex_eql rfl rfl rfl H11.out) ?_)
        | (show wpList _ _ _ (⟨some 14, _, _, _, _, _⟩ :: _) _ _; refine wl_run rfl (.agg (bv [0, (n : Int)])) (ex_build2 rfl rfl rfl (builtSpan _ _)) ?_)
        | (show wpList _ _ _ (⟨some 15, _, _, _, _, _⟩ :: _) _ _; refine wpList_lit1 rfl 106 109 (.tmp 14) rfl (some 15) rfl Tryd.underlying106 2 sizeSpan zeroSpan' _ rfl hs.out (by omega) (by omega) ?_; intro w1 g hb1 hx1 hg1))
      go_ret
      exact ⟨_, _, rfl, blk_slG hb1 rfl, hx1⟩
  · have HE := hid_ (cut_part h).1
    have HLT := hid_ (fun i => cutK_lt (i := i) h)
    have HKL := hid_ (cutK_le (n := n) (e := e))
    have HE0 : Hid (0 < e) := hid_ (by omega)
    have H8 : Hid (decide ((e : Int) = 0) = false) := hid_ (by rw [decide_eq_false_iff_not]; omega)
    have H11 : Hid (decide ((n : Int) = 0) = false) := hid_ (by rw [decide_eq_false_iff_not]; omega)
    have how : OwnV w w.heap.size 109 2 (.slice none 0 0) 0 (ints (spansL n e 0)) := by
      have h0 : spansL n e 0 = [] := by unfold spansL; rfl
      rw [h0]
      exact OwnV.nil _ _ _ _
    have hn' := hn
    clear h
    obtain ⟨K, hK⟩ : ∃ K, cutK n e = K := ⟨_, rfl⟩
    rw [hK] at HLT HKL ⊢
    clear hK
    go_enter Tryd.func50, Tryd.ntmps50
    go_wp2_with (first
      | (show wpList _ _ _ (⟨some 8, _, _, _, _, _⟩ :: _) _ _; refine wl_run rfl (.bool false) (ex_eql rfl rfl rfl H8.out) ?_)
      | (show wpList _ _ _ (⟨some 11, _, _, _, _, _⟩ :: _) _ _; refine wl_run_g (by rfl) (.bool false) (ex_eql rfl rfl rfl H11.out) ?_))
    go_loopw [5, 6] (fun x iv wr => ∃ (k p : Nat), Hid (p = k * e ∧ k ≤ K) ∧ p ≤ n + e ∧ iv = .int .i64 (p : Int) ∧ OwnV wr w.heap.size 109 2 x k (ints (spansL n e k)) ∧ Ext w wr) (fun _ i _ => n + e - (intOf i).toNat)
    case atStart => exact ⟨0, 0, hid_ (by omega), by omega, rfl, how, Ext.refl _⟩
    case round =>
      clear how
      obtain ⟨k, p, HP, hpn, rfl, ⟨OA, oc, rfl, hown⟩, hx⟩ := hrel
      by_cases hlt : p < n
      · obtain ⟨p2, hp2⟩ : ∃ q, p + e = q := ⟨_, rfl⟩
        obtain ⟨mn, hmn⟩ : ∃ q, min p2 n = q := ⟨_, rfl⟩
        have hs : Hid ((bv [(p : Int), (mn : Int)]).size = 2) := hid_ (by rw [bv_size]; rfl)
        have hk1 : k < K := by have h1 := HP.out; exact (HLT.out k).2 (by rw [← h1.1]; exact hlt)
        have hk2 : k ≤ 1000001 := by have h1 := HKL.out; omega
        have HNX : Hid (spansL n e (k + 1) = spansL n e k ++ [(p : Int), (mn : Int)]) := hid_ (by
          have h1 := HP.out
          have h2 : k * cutE n e = p := by rw [HE.out, h1.1]
          rw [spansL, h2, HE.out, hp2, hmn])
        have HP2 : Hid (p2 = (k + 1) * e ∧ k + 1 ≤ K) := hid_ (by have h1 := HP.out; rw [Nat.succ_mul, ← h1.1]; omega)
        have HPP := hid_ hp2
        have hp3 : p < p2 := by have := HE0.out; omega
        have hp4 : p2 ≤ n + e := by omega
        clear hp2
        go_wp2_with (first
          | (show wpList _ _ _ (⟨some 26, _, _, _, _, _⟩ :: _) _ _; refine wl_run rfl (.int .i64 (p2 : Int)) (by rw [← HPP.out]; exact ex_addN (i := p) (d := e) rfl rfl rfl (by omega)) ?_)
          | (show wpList _ _ _ (⟨some 28, _, _, _, _, _⟩ :: _) _ _; refine wl_run rfl (.int .i64 (mn : Int)) (by rw [← hmn]; exact ex_minN (i := p2) (d := n) rfl rfl rfl) ?_)
          | (show wpList _ _ _ (⟨some 29, _, _, _, _, _⟩ :: _) _ _; refine wl_run rfl (.agg (bv [(p : Int), (mn : Int)])) (ex_build2 rfl rfl rfl (builtSpan _ _)) ?_)
          | (show wpList _ _ _ (⟨some 30, _, _, _, _, _⟩ :: _) _ _; refine wpList_lit1 rfl 106 109 (.tmp 29) rfl (some 30) rfl Tryd.underlying106 2 sizeSpan zeroSpan' _ rfl hs.out (by omega) (by omega) ?_; intro w1 g hb1 hx1 hg1; have ho1 := own_keep hown hx1)
          | (show wpList _ _ _ (⟨some 31, _, _, _, _, _⟩ :: _) _ _; at_builtin; refine wpList_append_slf elt_span rfl (.tmp 22) (.tmp 30) rfl w.heap.size (.slice OA k oc) k (ints (spansL n e k)) rfl ho1 _ 1 (ints [(p : Int), (mn : Int)]) rfl (blk_slG hb1 rfl) (ints_one_mem _) (by omega) (by omega) (by have := hx.size; have := hx1.size; omega) ?_; intro A4 c4 w4 ho4 hgr4 hor4; have hx4 := (hx.trans hx1).grown' hgr4 (fun b hb => (ho1.lt b hb).1))
          | (show wpList _ _ _ (⟨some 21, _, _, _, _, _⟩ :: _) _ _; refine wl_run rfl (.int .i64 (p2 : Int)) (by rw [← HPP.out]; exact ex_addN (i := p) (d := e) rfl rfl rfl (by omega)) ?_))
        go_roundw
        case rel => exact ⟨k + 1, p2, HP2, hp4, rfl, ⟨A4, c4, rfl, by rw [HNX.out, ints_app]; exact ho4⟩, hx4⟩
        case measure => simp [intOf]; omega
      · have hk : k = K := by
          have h1 := HP.out
          have h2 : ¬ k < K := fun h => hlt (by rw [h1.1]; exact (HLT.out k).1 h)
          omega
        subst hk
        go_wp2_with fail
        go_ret
        exact ⟨_, _, rfl, (own_out hown).1, hx⟩
end Go.Proofs.YtgmddhljgfbibaaDoor
/- Slicing a slice of blocks. -/
namespace Go.Proofs.YtgmddhljgfbibaaDoor
set_option linter.unusedVariables false
set_option linter.unusedSimpArgs false
open Go.RowKit
/-- where a part of a slice of blocks begins -/
def subA (A : Option Addr) (c l : Nat) : Option Addr := if c = l then A else A.map (·.add (l * 64))
theorem SL.subK {w : World} {A : Option Addr} {n c l h : Nat} {xs : List Value} (hs : SL w 64 (.slice A n c) n xs) (hl : l ≤ h) (hh : h ≤ n) :
    SL w 64 (.slice (subA A c l) (h - l) (c - l)) (h - l) ((xs.drop (l * 64)).take ((h - l) * 64)) := by
  obtain ⟨A', c', e, h1, h2, h3, h4⟩ := hs
  injection e with e1 e2 e3
  subst e1 e3
  have h5 : l * 64 + (h - l) * 64 ≤ n * 64 := by rw [← Nat.add_mul]; exact Nat.mul_le_mul_right _ (by omega)
  refine ⟨_, _, rfl, by omega, by omega, by rw [List.length_take, List.length_drop, h3]; omega, fun h0 => ?_⟩
  obtain ⟨ad, rfl, hb, hc⟩ := h4 (by omega)
  unfold subA
  rw [if_neg (by omega)]
  refine ⟨ad.add (l * 64), rfl, by rw [block_of_add]; exact hb, fun j u hu => ?_⟩
  rw [add_of_add]
  refine hc _ _ ?_
  have hj : j < (h - l) * 64 := by have := (List.getElem?_eq_some_iff.1 hu).1; rw [List.length_take] at this; omega
  rwa [List.getElem?_take_of_lt hj, List.getElem?_drop] at hu
theorem run_subK (A : Option Addr) (n c l h : Nat) (hl : l ≤ h) (hh : h ≤ n) (hc : n ≤ c) (w : World) :
    (Instr.slice 35 (.slice A n c) (some (.int .i64 (l : Int))) (some (.int .i64 (h : Int))) none).run Tryd.prog w = .ok (.slice (subA A c l) (h - l) (c - l)) w := by
  have e1 : ((l : Int) ≤ (h : Int)) := by omega
  have e2 : ((h : Int) ≤ (c : Int)) := by omega
  have e3 : l ≤ c := by omega
  unfold subA
  go_simp
theorem run_subF (A : Option Addr) (n c l : Nat) (hh : l ≤ n) (hc : n ≤ c) (w : World) :
    (Instr.slice 35 (.slice A n c) (some (.int .i64 (l : Int))) none none).run Tryd.prog w = .ok (.slice (subA A c l) (n - l) (c - l)) w := by
  have e1 : ((l : Int) ≤ (n : Int)) := by omega
  have e2 : ((n : Int) ≤ (c : Int)) := by omega
  have e3 : l ≤ c := by omega
  unfold subA
  go_simp
theorem add_0 (a : Addr) : a.add 0 = a := by cases a; simp [Addr.add]
theorem subA_0 (A : Option Addr) (c : Nat) : subA A c 0 = A := by
  unfold subA
  split
  · rfl
  · cases A with
    | none => rfl
    | some a => simp [add_0]
theorem run_subT (A : Option Addr) (n c h : Nat) (hh : h ≤ n) (hc : n ≤ c) (w : World) :
    (Instr.slice 35 (.slice A n c) none (some (.int .i64 (h : Int))) none).run Tryd.prog w = .ok (.slice A h c) w := by
  have e2 : ((h : Int) ≤ (c : Int)) := by omega
  go_simp
section
variable {o : Oper} {a : Act}
theorem ex_subK {x lo hi : Operand} (ho : o.op = .slice 35 x (some lo) (some hi) none) {A : Option Addr} {n c l h : Nat} (hx : a.eval x = .slice A n c) (h1 : a.eval lo = .int .i64 (l : Int)) (h2 : a.eval hi = .int .i64 (h : Int)) (hl : l ≤ h) (hh : h ≤ n) (hc : n ≤ c) (w : World) :
    (execOp a.eval o).run Tryd.prog w = .ok (.value (.slice (subA A c l) (h - l) (c - l))) w := by
  simp [execOp, ho, hx, h1, h2, Instr.sliceAt, Sem.run_bind, run_underlying Tryd.underlying35, run_subK A n c l h hl hh hc w]
theorem ex_subF {x lo : Operand} (ho : o.op = .slice 35 x (some lo) none none) {A : Option Addr} {n c l : Nat} (hx : a.eval x = .slice A n c) (h1 : a.eval lo = .int .i64 (l : Int)) (hh : l ≤ n) (hc : n ≤ c) (w : World) :
    (execOp a.eval o).run Tryd.prog w = .ok (.value (.slice (subA A c l) (n - l) (c - l))) w := by
  simp [execOp, ho, hx, h1, Instr.sliceAt, Sem.run_bind, run_underlying Tryd.underlying35, run_subF A n c l hh hc w]
theorem ex_subT {x hi : Operand} (ho : o.op = .slice 35 x none (some hi) none) {A : Option Addr} {n c h : Nat} (hx : a.eval x = .slice A n c) (h1 : a.eval hi = .int .i64 (h : Int)) (hh : h ≤ n) (hc : n ≤ c) (w : World) :
    (execOp a.eval o).run Tryd.prog w = .ok (.value (.slice A h c)) w := by
  simp [execOp, ho, hx, h1, Instr.sliceAt, Sem.run_bind, run_underlying Tryd.underlying35, run_subT A n c h hh hc w]
end
end Go.Proofs.YtgmddhljgfbibaaDoor
/- Decoding with a table: plain. -/
namespace Go.Proofs.YtgmddhljgfbibaaDoor
set_option linter.unusedVariables false
set_option linter.unusedSimpArgs false
open Go.RowKit
def wordIn (D : List Bool) (p : Nat) (t : Tok) : Bool := decide (p + t.2.1.toNat ≤ D.length) && ((numB ((D.drop p).take t.2.1.toNat) : Int) == t.2.2)
def hasCode (long code : Int) (t : Tok) : Bool := t.2.1 == long && t.2.2 == code
def getGo (T : List Tok) (D : List Bool) (p : Nat) : Nat → Nat → Int × Nat × Int
  | 0, _ => (0, p, 4)
  | f + 1, long => if p + long ≤ D.length then (match T.find? (hasCode (long : Int) (numB ((D.drop p).take long) : Nat)) with | some t => (t.1, p + long, 0) | none => getGo T D p f (long + 1)) else (0, p, 3)
def symZ (T : List Tok) (D : List Bool) (p : Nat) : Int × Nat × Int :=
  match T.find? (wordIn D p) with | some t => (t.1, p + t.2.1.toNat, 0) | none => (0, p, if D.length < p + 16 then 3 else 4)
theorem symZ_some {T : List Tok} {D : List Bool} {p : Nat} {t : Tok} (h : T.find? (wordIn D p) = some t) : symZ T D p = (t.1, p + t.2.1.toNat, 0) := by unfold symZ; rw [h]
theorem symZ_none {T : List Tok} {D : List Bool} {p : Nat} (h : T.find? (wordIn D p) = none) : symZ T D p = (0, p, if D.length < p + 16 then 3 else 4) := by unfold symZ; rw [h]
theorem getGo_sym (T : List Tok) (D : List Bool) (p : Nat) (hs : T.Pairwise fun a b => a.2.1 ≤ b.2.1) (hfit : ∀ t ∈ T, ∃ l c : Nat, t.2 = ((l : Int), (c : Int)) ∧ 1 ≤ l ∧ l ≤ 16) :
    ∀ (f long : Nat), f + long = 17 → 1 ≤ long → p + long ≤ D.length + 1 → (∀ t ∈ T, t.2.1 < (long : Int) → wordIn D p t = false) → getGo T D p f long = symZ T D p
  | 0, long, h1, _, hp0, hno => by
    have hn : T.find? (wordIn D p) = none := by
      rw [List.find?_eq_none]
      intro t ht
      obtain ⟨l, c, e, h2, h3⟩ := hfit t ht
      have := hno t ht (by rw [e]; simp; omega)
      simp [this]
    rw [symZ_none hn, getGo, if_neg (by omega)]
  | f + 1, long, h1, h2, hp0, hno => by
    unfold getGo
    split
    · next hle =>
      split
      · next t ht =>
        obtain ⟨hp, l1, l2, rfl, has⟩ := List.find?_eq_some_iff_append.1 ht
        simp only [hasCode, Bool.and_eq_true, beq_iff_eq] at hp
        have hw : wordIn D p t = true := by simp [wordIn, hp.1, hp.2, hle]
        have hfind : (l1 ++ t :: l2).find? (wordIn D p) = some t := by
          rw [List.find?_eq_some_iff_append]
          refine ⟨hw, l1, l2, rfl, fun a ha => ?_⟩
          by_cases hwa : wordIn D p a = true
          · have hq := has a ha
            have h3 : a.2.1 ≤ t.2.1 := (List.pairwise_append.1 hs).2.2 a ha t (by simp)
            have h4 : ¬ a.2.1 < (long : Int) := fun h => by rw [hno a (by simp [ha]) h] at hwa; cases hwa
            have h5 : a.2.1 = (long : Int) := by omega
            simp only [wordIn, h5, Int.toNat_natCast, Bool.and_eq_true, decide_eq_true_eq, beq_iff_eq] at hwa
            simp [hasCode, h5, hwa.2] at hq
          · simpa using hwa
        rw [symZ_some hfind, hp.1]
        simp
      · next hn =>
        refine getGo_sym T D p hs hfit f (long + 1) (by omega) (by omega) (by omega) fun t ht hl => ?_
        by_cases h3 : t.2.1 < (long : Int)
        · exact hno t ht h3
        · have h4 : t.2.1 = (long : Int) := by omega
          have h5 := List.find?_eq_none.1 hn t ht
          rw [← Bool.not_eq_true]
          intro hw
          simp only [wordIn, h4, Int.toNat_natCast, Bool.and_eq_true, decide_eq_true_eq, beq_iff_eq] at hw
          simp [hasCode, h4, hw.2] at h5
    · next hle =>
      have hn : T.find? (wordIn D p) = none := by
        rw [List.find?_eq_none]
        intro t ht
        by_cases h3 : t.2.1 < (long : Int)
        · simp [hno t ht h3]
        · simp [wordIn]
          intro h4
          omega
      rw [symZ_none hn, if_pos (by omega)]
theorem getGo_out {T : List Tok} {D : List Bool} {p f long : Nat} (h : ¬ p + long ≤ D.length) : getGo T D p (f + 1) long = (0, p, 3) := by rw [getGo, if_neg h]
theorem getGo_yes {T : List Tok} {D : List Bool} {p f long : Nat} {t : Tok} (h : p + long ≤ D.length) (hf : T.find? (hasCode (long : Int) (numB ((D.drop p).take long) : Nat)) = some t) : getGo T D p (f + 1) long = (t.1, p + long, 0) := by rw [getGo, if_pos h, hf]
theorem getGo_no {T : List Tok} {D : List Bool} {p f long : Nat} (h : p + long ≤ D.length) (hf : T.find? (hasCode (long : Int) (numB ((D.drop p).take long) : Nat)) = none) : getGo T D p (f + 1) long = getGo T D p f (long + 1) := by rw [getGo, if_pos h, hf]
theorem getGo_end {T : List Tok} {D : List Bool} {p long : Nat} : getGo T D p 0 long = (0, p, 4) := by rw [getGo]
/-- the words of a checked table: sorted by length, and fit -/
theorem codesW_sorted (cs : List Int) : ∀ k, (codesW cs k).Pairwise fun a b => a.1 ≤ b.1
  | 0 => by simp [codesW]
  | k + 1 => by
    unfold codesW
    rw [List.pairwise_append]
    refine ⟨codesW_sorted cs k, ?_, fun a ha b hb => ?_⟩
    · unfold rowC
      rw [List.pairwise_iff_getElem]
      intro i j hi hj hij
      simp
    · have h1 := (codesW_nodup cs k).2 a ha
      unfold rowC at hb
      obtain ⟨i, -, rfl⟩ := List.mem_map.1 hb
      simp only
      omega
theorem zipC_sorted (C : List (Nat × Nat)) (xs : List Int) (h : C.Pairwise fun a b => a.1 ≤ b.1) (hl : C.length = xs.length) : (zipC C xs).Pairwise fun a b => a.2.1 ≤ b.2.1 := by
  rw [List.pairwise_iff_getElem] at h ⊢
  intro i j hi hj hij
  have e : (zipC C xs).length = C.length := zipC_len _ _ (by omega)
  rw [zipC_at C xs i (by omega) (by omega) hi, zipC_at C xs j (by omega) (by omega) hj]
  have := h i j (by omega) (by omega) hij
  simp only
  omega
theorem zipC_fits (cs xs : List Int) (hl : cs.length = 16) (hok : okW cs = true) (hC : (codesW cs 16).length = xs.length) : ∀ t ∈ zipC (codesW cs 16) xs, ∃ l c : Nat, t.2 = ((l : Int), (c : Int)) ∧ 1 ≤ l ∧ l ≤ 16 ∧ c < 2 ^ l := by
  intro t ht
  obtain ⟨k, hk, rfl⟩ := List.getElem_of_mem ht
  have e : (zipC (codesW cs 16) xs).length = (codesW cs 16).length := zipC_len _ _ (by omega)
  rw [zipC_at _ xs k (by omega) (by omega) hk]
  obtain ⟨f1, f2, f3⟩ := codesW_fit cs hok hl 16 (by omega) _ (List.getElem_mem (show k < (codesW cs 16).length by omega))
  exact ⟨_, _, rfl, f1, f2, by omega⟩
def decGo (T : List Tok) (D : List Bool) : Nat → Nat → List Int → List Int × Int × Int
  | 0, p, acc => (acc, p, 0)
  | m + 1, p, acc => if (symZ T D p).2.2 = 0 then decGo T D m (symZ T D p).2.1 (acc ++ [(symZ T D p).1]) else ([], 0, (symZ T D p).2.2)
/-- what Decode answers -/
def decZ (cs xs : List Int) (D : List Bool) (many : Int) : List Int × Int × Int :=
  if checkZ cs xs = 0 then (if inB many 0 20000 then decGo (zipC (codesW cs 16) xs) D many.toNat 0 [] else ([], 0, 1)) else ([], 0, checkZ cs xs)
theorem symZ_le {T : List Tok} {D : List Bool} {p : Nat} (hp : p ≤ D.length) : (symZ T D p).2.1 ≤ D.length := by
  unfold symZ
  split
  · next t ht =>
    have := List.find?_some ht
    simp only [wordIn, Bool.and_eq_true, decide_eq_true_eq] at this
    exact this.1
  · exact hp
theorem codeF_hasCode (T : List Tok) (l c : Int) : codeF T (l, c) = (T.find? (hasCode l c)).map fun t => Value.int .i64 t.1 := rfl
end Go.Proofs.YtgmddhljgfbibaaDoor
/- Tokens out of digits, in plain words; what a walk over two sources has in common. -/
namespace Go.Proofs.YtgmddhljgfbibaaDoor
set_option linter.unusedVariables false
set_option linter.unusedSimpArgs false
open Go.RowKit
/-- one token out of the digits D from place p on; r: whose place is told on an error: the reader's, or p -/
def segNext (r : Bool) (T1 T2 : List Tok) (D : List Bool) (first : Bool) (p : Nat) : Tok × Int × Nat :=
  let s := symZ (if first then T1 else T2) D p
  if s.2.2 ≠ 0 then ((0, 0, 0), s.2.2, if r then (if s.2.2 = 3 then D.length else p + 16) else p)
  else
    let wd := if first then s.1 else s.1 % 16
    if 12 < wd ∨ (first = false ∧ 11 < wd) then ((0, 0, 0), 4, if r then s.2.1 else p)
    else if D.length < s.2.1 + wd.toNat then ((0, 0, 0), 3, if r then s.2.1 else p)
    else ((s.1, wd, ((numB ((D.drop s.2.1).take wd.toNat) : Nat) : Int)), 0, s.2.1 + wd.toNat)
theorem segNext_sym {r : Bool} {T1 T2 : List Tok} {D : List Bool} {first : Bool} {p : Nat} (h : (symZ (if first then T1 else T2) D p).2.2 ≠ 0) : segNext r T1 T2 D first p = ((0, 0, 0), (symZ (if first then T1 else T2) D p).2.2, if r then (if (symZ (if first then T1 else T2) D p).2.2 = 3 then D.length else p + 16) else p) := by
  unfold segNext
  dsimp only
  rw [if_pos h]
theorem segNext_wide {r : Bool} {T1 T2 : List Tok} {D : List Bool} {first : Bool} {p p' : Nat} {s wd : Int} (h : symZ (if first then T1 else T2) D p = (s, p', 0)) (hw : (if first then s else s % 16) = wd) (hb : 12 < wd ∨ (first = false ∧ 11 < wd)) : segNext r T1 T2 D first p = ((0, 0, 0), 4, if r then p' else p) := by
  unfold segNext
  rw [h]
  dsimp only
  rw [if_neg (by simp), hw, if_pos hb]
theorem segNext_short {r : Bool} {T1 T2 : List Tok} {D : List Bool} {first : Bool} {p p' : Nat} {s wd : Int} (h : symZ (if first then T1 else T2) D p = (s, p', 0)) (hw : (if first then s else s % 16) = wd) (hb : ¬ (12 < wd ∨ (first = false ∧ 11 < wd))) (hl : D.length < p' + wd.toNat) : segNext r T1 T2 D first p = ((0, 0, 0), 3, if r then p' else p) := by
  unfold segNext
  rw [h]
  dsimp only
  rw [if_neg (by simp), hw, if_neg hb, if_pos hl]
theorem segNext_good {r : Bool} {T1 T2 : List Tok} {D : List Bool} {first : Bool} {p p' : Nat} {s wd : Int} (h : symZ (if first then T1 else T2) D p = (s, p', 0)) (hw : (if first then s else s % 16) = wd) (hb : ¬ (12 < wd ∨ (first = false ∧ 11 < wd))) (hl : ¬ D.length < p' + wd.toNat) : segNext r T1 T2 D first p = ((s, wd, ((numB ((D.drop p').take wd.toNat) : Nat) : Int)), 0, p' + wd.toNat) := by
  unfold segNext
  rw [h]
  dsimp only
  rw [if_neg (by simp), hw, if_neg hb, if_neg hl]
theorem segNext_same (T1 T2 : List Tok) (D : List Bool) (first : Bool) (p : Nat) : (segNext true T1 T2 D first p).1 = (segNext false T1 T2 D first p).1 ∧ (segNext true T1 T2 D first p).2.1 = (segNext false T1 T2 D first p).2.1 ∧
    ((segNext true T1 T2 D first p).2.1 = 0 → (segNext true T1 T2 D first p).2.2 = (segNext false T1 T2 D first p).2.2) := by
  by_cases h : (symZ (if first then T1 else T2) D p).2.2 ≠ 0
  · rw [segNext_sym h, segNext_sym h]
    exact ⟨rfl, rfl, fun h0 => absurd h0 h⟩
  · obtain ⟨s, p', e⟩ : ∃ s p', symZ (if first then T1 else T2) D p = (s, p', 0) := ⟨_, _, Prod.ext rfl (Prod.ext rfl (by simpa using h))⟩
    by_cases hb : 12 < (if first then s else s % 16) ∨ (first = false ∧ 11 < (if first then s else s % 16))
    · rw [segNext_wide e rfl hb, segNext_wide e rfl hb]
      exact ⟨rfl, rfl, fun h0 => by cases h0⟩
    · by_cases hl : D.length < p' + (if first then s else s % 16).toNat
      · rw [segNext_short e rfl hb hl, segNext_short e rfl hb hl]
        exact ⟨rfl, rfl, fun h0 => by cases h0⟩
      · rw [segNext_good e rfl hb hl, segNext_good e rfl hb hl]
        exact ⟨rfl, rfl, fun _ => rfl⟩
theorem wordIn_drop (D : List Bool) (p : Nat) (t : Tok) (hp : p ≤ D.length) : wordIn (D.drop p) 0 t = wordIn D p t := by
  unfold wordIn
  rw [List.drop_zero, List.length_drop, Nat.zero_add]
  congr 1
  rw [decide_eq_decide]
  omega
/-- the same symbol, out of what is left -/
theorem symZ_drop (T : List Tok) (D : List Bool) (p : Nat) (hp : p ≤ D.length) : symZ T (D.drop p) 0 = ((symZ T D p).1, (symZ T D p).2.1 - p, (symZ T D p).2.2) ∧ p ≤ (symZ T D p).2.1 := by
  unfold symZ
  have hf : wordIn (D.drop p) 0 = wordIn D p := funext fun t => wordIn_drop D p t hp
  rw [hf]
  cases T.find? (wordIn D p) with
  | some t => exact ⟨by simp, by simp⟩
  | none =>
    refine ⟨?_, Nat.le_refl _⟩
    rw [List.length_drop]
    simp only [Nat.zero_add, Nat.sub_self, Prod.mk.injEq, true_and]
    by_cases h : D.length < p + 16
    · rw [if_pos h, if_pos (by omega)]
    · rw [if_neg h, if_neg (by omega)]
theorem symZ_mem {T : List Tok} {D : List Bool} {p : Nat} (hT : ∀ t ∈ T, 0 ≤ t.1 ∧ t.1 ≤ 255) : 0 ≤ (symZ T D p).1 ∧ (symZ T D p).1 ≤ 255 := by
  unfold symZ
  split
  · next t ht => exact hT t (List.mem_of_find?_eq_some ht)
  · exact ⟨by simp, by simp⟩
theorem symZ_e (T : List Tok) (D : List Bool) (p : Nat) : (symZ T D p).2.2 = 0 ∨ (symZ T D p).2.2 = 3 ∨ (symZ T D p).2.2 = 4 := by
  unfold symZ
  split
  · exact .inl rfl
  · dsimp only
    split
    · exact .inr (.inl rfl)
    · exact .inr (.inr rfl)
section
variable {σ : Type} {n1 n2 : σ → Tok × Int × σ}
/-- sources that tell the same, but for what is left behind an error -/
def SameN (n1 n2 : σ → Tok × Int × σ) : Prop := ∀ s, (n1 s).1 = (n2 s).1 ∧ (n1 s).2.1 = (n2 s).2.1 ∧ ((n1 s).2.1 = 0 → (n1 s).2.2 = (n2 s).2.2)
def SameG (g h : Int × List Int × List Tok × σ) : Prop := g.1 = h.1 ∧ g.2.1 = h.2.1 ∧ g.2.2.1 = h.2.2.1 ∧ (g.1 = 0 → g.2.2.2 = h.2.2.2)
theorem goB_same (hs : SameN n1 n2) : ∀ (k i : Nat) (z : List Int) (all : List Tok) (s : σ), 64 - i ≤ k → SameG (goB n1 i z all s) (goB n2 i z all s) := by
  intro k
  induction k with
  | zero =>
    intro i z all s h
    rw [goB.eq_def n1, goB.eq_def n2, dif_neg (by omega), dif_neg (by omega)]
    exact ⟨rfl, rfl, rfl, fun _ => rfl⟩
  | succ k ih =>
    intro i z all s h
    rw [goB.eq_def n1, goB.eq_def n2]
    by_cases hi : i < 64
    · rw [dif_pos hi, dif_pos hi]
      obtain ⟨h1, h2, h3⟩ := hs s
      rw [← h1, ← h2]
      by_cases he : (n1 s).2.1 ≠ 0
      · rw [if_pos he, if_pos he]
        exact ⟨rfl, rfl, rfl, fun h0 => absurd h0 he⟩
      · rw [if_neg he, if_neg he, ← h3 (by simpa using he)]
        split
        · exact ⟨rfl, rfl, rfl, fun h0 => rfl⟩
        · split
          · exact ⟨rfl, rfl, rfl, fun h0 => rfl⟩
          · split
            · exact ⟨rfl, rfl, rfl, fun h0 => rfl⟩
            · exact ih _ _ _ _ (by omega)
    · rw [dif_neg hi, dif_neg hi]
      exact ⟨rfl, rfl, rfl, fun _ => rfl⟩
theorem blkZ_same {m1 m2 : Bool → σ → Tok × Int × σ} (hs : ∀ b, SameN (m1 b) (m2 b)) (before : Int) (s : σ) : SameG (blkZ m1 before s) (blkZ m2 before s) := by
  unfold blkZ
  obtain ⟨h1, h2, h3⟩ := hs true s
  rw [← h1, ← h2]
  by_cases he : (m1 true s).2.1 ≠ 0
  · rw [if_pos he, if_pos he]
    exact ⟨rfl, rfl, rfl, fun h0 => absurd h0 he⟩
  · rw [if_neg he, if_neg he, ← h3 (by simpa using he)]
    split
    · exact ⟨rfl, rfl, rfl, fun h0 => rfl⟩
    · dsimp only
      have hg := goB_same (hs false) 64 1 ((List.replicate 64 0).set 0 (before + (backR (m1 true s).1.2.1 (m1 true s).1.2.2).1)) [(m1 true s).1] (m1 true s).2.2 (by omega)
      generalize goB (m1 false) 1 ((List.replicate 64 0).set 0 (before + (backR (m1 true s).1.2.1 (m1 true s).1.2.2).1)) [(m1 true s).1] (m1 true s).2.2 = g at *
      generalize goB (m2 false) 1 ((List.replicate 64 0).set 0 (before + (backR (m1 true s).1.2.1 (m1 true s).1.2.2).1)) [(m1 true s).1] (m1 true s).2.2 = g' at *
      obtain ⟨a1, a2, a3, a4⟩ := g
      obtain ⟨b1, b2, b3, b4⟩ := g'
      obtain ⟨e1, e2, e3, e4⟩ := hg
      dsimp only at e1 e2 e3 e4 ⊢
      subst e1 e2 e3
      split
      · next h => exact ⟨rfl, rfl, rfl, fun h0 => absurd h0 h⟩
      · next h =>
        have := e4 (by simpa using h)
        subst this
        exact ⟨rfl, rfl, rfl, fun _ => rfl⟩
theorem goB_keep0 (next : σ → Tok × Int × σ) : ∀ (k i : Nat) (z : List Int) (all : List Tok) (s : σ), 64 - i ≤ k → 1 ≤ i → (goB next i z all s).2.1.getD 0 0 = z.getD 0 0 := by
  intro k
  induction k with
  | zero => intro i z all s h _; rw [goB.eq_def, dif_neg (by omega)]
  | succ k ih =>
    intro i z all s h h1
    rw [goB.eq_def]
    by_cases hi : i < 64
    · rw [dif_pos hi]
      split
      · rfl
      · split
        · rfl
        · split
          · rfl
          · split
            · rfl
            · rw [ih _ _ _ _ (by omega) (by omega)]
              rw [List.getD_eq_getElem?_getD, List.getElem?_set_ne (by omega), ← List.getD_eq_getElem?_getD]
    · rw [dif_neg hi]
/-- a good block's first number is in its bounds -/
theorem blkZ_head (next : Bool → σ → Tok × Int × σ) (before : Int) (s : σ) (h : (blkZ next before s).1 = 0) : -2047 ≤ (blkZ next before s).2.1.getD 0 0 ∧ (blkZ next before s).2.1.getD 0 0 ≤ 2047 := by
  unfold blkZ at h ⊢
  by_cases he : (next true s).2.1 ≠ 0
  · rw [if_pos he] at h; exact absurd h he
  · rw [if_neg he] at h ⊢
    cases ht : tokOk1 before (next true s).1 with
    | false => simp [ht] at h
    | true =>
      rw [ht, if_neg (by simp)] at h
      rw [if_neg (by simp)]
      dsimp only at h ⊢
      have hk := goB_keep0 (next false) 64 1 ((List.replicate 64 0).set 0 (before + (backR (next true s).1.2.1 (next true s).1.2.2).1)) [(next true s).1] (next true s).2.2 (by omega) (by omega)
      generalize goB (next false) 1 ((List.replicate 64 0).set 0 (before + (backR (next true s).1.2.1 (next true s).1.2.2).1)) [(next true s).1] (next true s).2.2 = g at *
      unfold tokOk1 at ht
      have ht := of_decide_eq_true ht
      by_cases hg : g.1 ≠ 0
      · rw [if_pos hg] at h; exact absurd h hg
      · rw [if_neg hg] at h ⊢
        by_cases hz : tokensZ before g.2.1 = g.2.2.1
        · rw [if_pos hz]
          dsimp only
          have h0 := zfrom_get g.2.1 64 0 (by omega) (by omega)
          rw [show (zigAt 0).toNat = 0 by decide] at h0
          rw [h0, hk, show ((List.replicate 64 (0 : Int)).set 0 (before + (backR (next true s).1.2.1 (next true s).1.2.2).1)).getD 0 0 = before + (backR (next true s).1.2.1 (next true s).1.2.2).1 from rfl]
          exact ⟨ht.2.2.1, ht.2.2.2⟩
        · rw [if_neg hz] at h; cases h
end
end Go.Proofs.YtgmddhljgfbibaaDoor
/- run.From, its head: a source that fails, a first token that may not be. -/
namespace Go.Proofs.YtgmddhljgfbibaaDoor
set_option linter.unusedVariables false
set_option linter.unusedSimpArgs false
open Go.RowKit
theorem none_any (x : Int) (w : World) : Calls Tryd.prog 62 #[.int .i64 x] w fun e w' => e = .returned (.tuple #[.agg (bv (List.replicate 64 0)), .slice none 0 0, .int .i64 x]) ∧ Ext w w' := by
  have hz0 := hid_ (show (Value.agg (bv (List.replicate 64 0))).cells.size = 64 by rw [show (Value.agg (bv (List.replicate 64 0))).cells = bv (List.replicate 64 0) from rfl, bv_size]; rfl)
  have hbt : Tryd.prog.built 43 [] = some (bv (List.replicate 64 0)) := by kernel_rfl
  have hal : (Tryd.prog.info? 43).bind (·.zero) = some (.agg (bv (List.replicate 64 0))) := zero48
  have HBT := hid_ hbt
  have HAL := hid_ hal
  have HO := hid_ (bv_one (List.replicate 64 0))
  have HS := hid_ (show (bv (List.replicate 64 0)).size = 64 by rw [bv_size]; rfl)
  clear hbt hal
  generalize bv (List.replicate 64 0) = cz at *
  go_enter Tryd.func62, Tryd.ntmps62
  go_wp2_with (first
    | (show wpList _ _ _ (⟨some 2, _, _, _, _, _⟩ :: _) _ _; refine wpList_alloc_abs' rfl (some 2) rfl 43 rfl _ HAL.out ?_; intro w1 g1 hb1 hx1 hg1)
    | (refine wpList_build0 rfl 43 rfl _ HBT.out ?_)
    | (show wpList _ _ _ (⟨none, .store _ (.tmp 2) (.tmp 5), _, _, _, _⟩ :: _) _ _; refine wpList_store_blk rfl 43 (.tmp 2) (.tmp 5) rfl _ _ rfl rfl hb1 64 size48 HS.out hz0.out HO.out ?_; intro w2 hb2 hg2))
  refine ret_cell_tmp2 rfl rfl _ rfl hb2 _ Tryd.underlying43 rfl 64 size48 HS.out ⟨rfl, hx1.grown hg2 hg1⟩
section
variable {σ : Type} {f : FuncId} {B : Nat} {S : Nat → Prop} {Inv : World → σ → Prop} {next : Bool → σ → Tok × Int × σ}
/-- what From hands back -/
def FromIs (S : Nat → Prop) (Inv : World → σ → Prop) (w : World) (g : Int × List Int × List Tok × σ) (e : Ending) (w' : World) : Prop :=
  ∃ A c, e = .returned (.tuple #[.agg (bv g.2.1), .slice A g.2.2.1.length c, .int .i64 g.1]) ∧ SL w' 3 (.slice A g.2.2.1.length c) g.2.2.1.length (toks g.2.2.1) ∧ Inv w' g.2.2.2 ∧ Upd S w w'
set_option maxRecDepth 100000 in
set_option maxHeartbeats 1000000 in
theorem from_err (before : Int) {ty : TypeId} {v recv : Value} (hm : Meth Tryd.prog ty v "Token" f recv) (C : Src f #[recv] #[] B S Inv next) (w : World) (s : σ) (hI : Inv w s) (hB : B = w.heap.size)
    {t : Tok} {x : Int} {s1 : σ} (h : next true s = (t, x, s1)) (hx0 : x ≠ 0) : Calls Tryd.prog 38 #[.int .i64 before, .iface ty v] w (FromIs S Inv w (x, List.replicate 64 0, [], s1)) := by
  have HA := hid_ (fun W (a : Inv W s) (b : B ≤ W.heap.size) => C.ask true s W a b)
  rw [h] at HA
  simp only [Array.append_empty, List.append_toArray, List.cons_append, List.nil_append, tokv_out] at HA
  have hxb : (x != 0) = true := by simpa using hx0
  have HN := hid_ (fun W => none_any x W)
  have HAL := hid_ (show (Tryd.prog.info? 43).bind (·.zero) = some (.agg (bv (List.replicate 64 0))) from zero48)
  have HO := hid_ (bv_one (List.replicate 64 0))
  have HS := hid_ (show (bv (List.replicate 64 0)).size = 64 by rw [bv_size]; rfl)
  have hz0 := hid_ (show (Value.agg (bv (List.replicate 64 0))).cells.size = 64 by rw [show (Value.agg (bv (List.replicate 64 0))).cells = bv (List.replicate 64 0) from rfl, bv_size]; rfl)
  have HK := hid_ C.keep
  have HLOW := hid_ C.low
  unfold FromIs
  generalize hcz : bv (List.replicate 64 0) = cz at *
  have HCZ := hid_ hcz
  have HBs := hid_ hB
  clear h hx0 C hcz hB
  go_enter Tryd.func38, Tryd.ntmps38
  go_wp2_with (first
    | (show wpList _ _ _ (⟨some 4, _, _, _, _, _⟩ :: _) _ _; refine wpList_alloc_abs' rfl (some 4) rfl 43 rfl _ HAL.out ?_; intro w1 g1 hb1 hx1 hg1)
    | (show wpList _ _ _ (⟨some 19, _, _, _, _, _⟩ :: _) _ _; refine wl_enter (by rfl) (run_invoke (.tmp 18) "Token" _ _ rfl rfl hm #[recv, .bool true] (by simp [Act.eval])) ?_; (with_reducible refine (HA.out _ (HK.out _ _ _ hI (upd_of_ext hx1)) (by rw [HBs.out]; exact hx1.size)).mono ?_); rintro e w2 ⟨rfl, hi2, hu2⟩; refine ⟨_, rfl, ?_⟩)
    | (show wpList _ _ _ (⟨some 8, _, _, _, _, _⟩ :: _) _ _; refine wpList_alloc_abs' rfl (some 8) rfl 60 rfl _ zeroTok ?_; intro w3 g3 hb3 hx3 hg3)
    | (show wpList _ _ _ (⟨none, .store _ (.tmp 8) (.tmp 20), _, _, _, _⟩ :: _) _ _; refine wpList_store_blk rfl 60 (.tmp 8) (.tmp 20) rfl _ _ rfl rfl hb3 3 sizeTok rfl rfl (three_one _ _ _) ?_; intro w4 hb4 hg4)
    | (go_at_call 62; (with_reducible refine (HN.out _).mono ?_); rintro e w5 ⟨rfl, hx5⟩; have hb1' : Blk w5 g1 43 (Value.agg cz).cells := ((((hu2.blk hb1 (fun k => by have := HLOW.out _ k; have := HBs.out; omega)).ext hx3).grown hg4 (by intro k; have := Option.some.inj k; have := (hu2.blk hb1 (fun k => by have := HLOW.out _ k; have := HBs.out; omega)).lt; omega))).ext hx5)
    | (show wpList _ _ _ (⟨none, .store _ (.tmp 4) (.tmp 27), _, _, _, _⟩ :: _) _ _; refine wpList_store_blk rfl 43 (.tmp 4) (.tmp 27) rfl _ _ rfl rfl hb1' 64 size48 HS.out hz0.out HO.out ?_; intro w6 hb6 hg6))
  have hu : Upd S w w6 := by
    have h1 : Upd S w w2 := (upd_of_ext (S := S) hx1).trans hu2 (fun _ k => .inl k)
    have h2 := h1.size
    have h3 : Upd S w w3 := h1.trans (upd_of_ext (S := fun _ => False) hx3) (fun _ k => k.elim)
    have h4 := h3.trans (upd_grown hg4) (fun x k => .inr (by have := Option.some.inj k; omega))
    have h5 := h4.trans (upd_of_ext (S := fun _ => False) hx5) (fun _ k => k.elim)
    exact h5.trans (upd_grown hg6) (fun x k => .inr (by have := Option.some.inj k; omega))
  have hi : Inv w6 s1 := by
    have h2 := hu2.size
    have h3 := hx1.size
    have hBB := HBs.out
    have k3 : Upd (fun b => B ≤ b) w2 w3 := upd_of_ext hx3
    have k4 := k3.trans (upd_grown hg4) (fun x k => .inl (by have := Option.some.inj k; omega))
    have k5 := k4.trans (upd_of_ext (S := fun _ => False) hx5) (fun _ k => k.elim)
    exact HK.out _ _ _ hi2 (k5.trans (upd_grown hg6) (fun x k => .inl (by have := Option.some.inj k; omega)))
  refine ret_cell_tmp2 rfl rfl _ rfl hb6 _ Tryd.underlying43 rfl 64 size48 HS.out ?_
  exact ⟨none, 0, rfl, SL.nil _ _, hi, hu⟩
theorem tok_isS : ((Tryd.prog.info? 60).bind (·.zero)).isSome = true := by kernel_rfl
theorem blk_three {w : World} {g : Nat} {T : TypeId} {a b c : Int} (h : Blk w g T #[.int .i64 a, .int .i64 b, .int .i64 c]) : w.cell? ⟨g, 0, none⟩ = some (.int .i64 a) ∧ w.cell? ⟨g, 1, none⟩ = some (.int .i64 b) ∧ w.cell? ⟨g, 2, none⟩ = some (.int .i64 c) := by
  rw [h.cell, h.cell, h.cell]
  exact ⟨rfl, rfl, rfl⟩
set_option maxRecDepth 100000 in
set_option maxHeartbeats 4000000 in
theorem from_bad (before : Int) (hb1 : -2047 ≤ before) (hb2 : before ≤ 2047) {ty : TypeId} {v recv : Value} (hm : Meth Tryd.prog ty v "Token" f recv) (C : Src f #[recv] #[] B S Inv next) (w : World) (s : σ) (hI : Inv w s) (hB : B = w.heap.size)
    {t : Tok} {s1 : σ} (h : next true s = (t, 0, s1)) (hbad : tokOk1 before t = false) : Calls Tryd.prog 38 #[.int .i64 before, .iface ty v] w (FromIs S Inv w (4, List.replicate 64 0, [], s1)) := by
  have HA := hid_ (fun W (a : Inv W s) (b : B ≤ W.heap.size) => C.ask true s W a b)
  rw [h] at HA
  simp only [Array.append_empty, List.append_toArray, List.cons_append, List.nil_append, tokv_out] at HA
  have HN := hid_ (fun W => none_any 4 W)
  have HAL := hid_ (show (Tryd.prog.info? 43).bind (·.zero) = some (.agg (bv (List.replicate 64 0))) from zero48)
  have HO := hid_ (bv_one (List.replicate 64 0))
  have HS := hid_ (show (bv (List.replicate 64 0)).size = 64 by rw [bv_size]; rfl)
  have hz0 := hid_ (show (Value.agg (bv (List.replicate 64 0))).cells.size = 64 by rw [show (Value.agg (bv (List.replicate 64 0))).cells = bv (List.replicate 64 0) from rfl, bv_size]; rfl)
  have HK := hid_ C.keep
  have HLOW := hid_ C.low
  obtain ⟨t1, t2, t3⟩ := t
  have HBK := hid_ (fun W => back_any t2 t3 W)
  have hbb := backR_bd t2 t3
  have hcase : ((backR t2 t3).2 != 0) = true ∨ (((backR t2 t3).2 != 0) = false ∧ (t1 != t2) = true) ∨ (((backR t2 t3).2 != 0) = false ∧ (t1 != t2) = false ∧ inB (before + (backR t2 t3).1) (-2047) 2047 = false) := by
    by_cases c1 : (backR t2 t3).2 = 0
    · by_cases c2 : t1 = t2
      · refine .inr (.inr ⟨by simpa using c1, by simpa using c2, ?_⟩)
        rw [inB_not]
        unfold tokOk1 at hbad
        simp only [decide_eq_false_iff_not, not_and] at hbad
        have := hbad c1 c2
        omega
      · exact .inr (.inl ⟨by simpa using c1, by simpa using c2⟩)
    · exact .inl (by simpa using c1)
  have HIC := hid_ (fun W => isCoef_any (before + (backR t2 t3).1) W)
  unfold FromIs
  clear hbad h C
  generalize backR t2 t3 = bk at *
  obtain ⟨b1, b2⟩ := bk
  simp only at hbb hcase HBK HIC
  obtain ⟨hbb1, hbb2, -⟩ := hbb
  generalize hcz : bv (List.replicate 64 0) = cz at *
  have HCZ := hid_ hcz
  have HBs := hid_ hB
  clear hcz hB
  rcases hcase with c1 | ⟨c1, c2⟩ | ⟨c1, c2, c3⟩
  all_goals
    go_enter Tryd.func38, Tryd.ntmps38
    go_wp2_with (first
      | (show wpList _ _ _ (⟨some 4, _, _, _, _, _⟩ :: _) _ _; refine wpList_alloc_abs' rfl (some 4) rfl 43 rfl _ HAL.out ?_; intro w1 g1 hb1 hx1 hg1)
      | (show wpList _ _ _ (⟨some 19, _, _, _, _, _⟩ :: _) _ _; refine wl_enter (by rfl) (run_invoke (.tmp 18) "Token" _ _ rfl rfl hm #[recv, .bool true] (by simp [Act.eval])) ?_; (with_reducible refine (HA.out _ (HK.out _ _ _ hI (upd_of_ext hx1)) (by rw [HBs.out]; exact hx1.size)).mono ?_); rintro e w2 ⟨rfl, hi2, hu2⟩; refine ⟨_, rfl, ?_⟩)
      | (show wpList _ _ _ (⟨some 8, _, _, _, _, _⟩ :: _) _ _; refine wpList_alloc_abs' rfl (some 8) rfl 60 rfl _ zeroTok ?_; intro w3 g3 hb3 hx3 hg3)
      | (show wpList _ _ _ (⟨none, .store _ (.tmp 8) (.tmp 20), _, _, _, _⟩ :: _) _ _; refine wpList_store_blk rfl 60 (.tmp 8) (.tmp 20) rfl _ _ rfl rfl hb3 3 sizeTok rfl rfl (three_one _ _ _) ?_; intro w4 hb4 hg4)
      | (show wpList _ _ _ (⟨some 30, _, _, _, _, _⟩ :: _) _ _; refine wpList_load_blk rfl 60 (.tmp 8) rfl g3 rfl hb4 _ Tryd.underlying60 rfl 3 sizeTok rfl ?_)
      | (show wpList _ _ _ (⟨some 31, _, _, _, _, _⟩ :: _) _ _; refine wpList_lit1 rfl 72 60 (.tmp 30) rfl (some 31) rfl Tryd.underlying72 3 sizeTok tok_isS _ rfl rfl (by omega) (by omega) ?_; intro w5 g5 hb5 hx5 hg5; obtain ⟨q0, q1, q2⟩ := blk_three (hb4.ext hx5))
      | (go_at_call 63; (with_reducible refine (HBK.out _).mono ?_); rintro e w' ⟨rfl, rfl⟩)
      | (go_at_call 64; (with_reducible refine (HIC.out _).mono ?_); rintro e w' ⟨rfl, rfl⟩)
      | (go_at_call 62; (with_reducible refine (HN.out _).mono ?_); rintro e w6 ⟨rfl, hx6⟩; have hb1' : Blk w6 g1 43 (Value.agg cz).cells := (((((hu2.blk hb1 (fun k => by have := HLOW.out _ k; have := HBs.out; omega)).ext hx3).grown hg4 (by intro k; have := Option.some.inj k; have := (hu2.blk hb1 (fun k => by have := HLOW.out _ k; have := HBs.out; omega)).lt; omega))).ext hx5).ext hx6)
      | (show wpList _ _ _ (⟨none, .store _ (.tmp 4) (.tmp 58), _, _, _, _⟩ :: _) _ _; refine wpList_store_blk rfl 43 (.tmp 4) (.tmp 58) rfl _ _ rfl rfl hb1' 64 size48 HS.out hz0.out HO.out ?_; intro w7 hb7 hg7))
    have hu : Upd S w w7 := by
      have h1 : Upd S w w2 := (upd_of_ext (S := S) hx1).trans hu2 (fun _ k => .inl k)
      have h2 := h1.size
      have h3 : Upd S w w3 := h1.trans (upd_of_ext (S := fun _ => False) hx3) (fun _ k => k.elim)
      have h4 := h3.trans (upd_grown hg4) (fun x k => .inr (by have := Option.some.inj k; omega))
      have h5 := h4.trans (upd_of_ext (S := fun _ => False) (hx5.trans hx6)) (fun _ k => k.elim)
      exact h5.trans (upd_grown hg7) (fun x k => .inr (by have := Option.some.inj k; omega))
    have hi : Inv w7 s1 := by
      have h2 := hu2.size
      have h3 := hx1.size
      have hBB := HBs.out
      have k3 : Upd (fun b => B ≤ b) w2 w3 := upd_of_ext hx3
      have k4 := k3.trans (upd_grown hg4) (fun x k => .inl (by have := Option.some.inj k; omega))
      have k5 := k4.trans (upd_of_ext (S := fun _ => False) (hx5.trans hx6)) (fun _ k => k.elim)
      exact HK.out _ _ _ hi2 (k5.trans (upd_grown hg7) (fun x k => .inl (by have := Option.some.inj k; omega)))
    refine ret_cell_tmp2 rfl rfl _ rfl hb7 _ Tryd.underlying43 rfl 64 size48 HS.out ?_
    exact ⟨none, 0, rfl, SL.nil _ _, hi, hu⟩
end
end Go.Proofs.YtgmddhljgfbibaaDoor
