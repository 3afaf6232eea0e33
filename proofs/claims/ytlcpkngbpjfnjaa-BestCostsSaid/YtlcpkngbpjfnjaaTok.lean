/- Rows of three integers: tokens. Eq on equal lists of them. -/
import Derived.Deep.QuietTactic
import Derived.BigQuiet
import Derived.Test.YtlcpkngbpjfnjaaBase
import Derived.Test.YtlcpkngbpjfnjaaEqInt
namespace Go.Proofs.Ytlcpkngbpjfnjaa
set_option linter.unusedVariables false
set_option linter.unusedSimpArgs false
open Go.RowKit
abbrev Tok := Int × Int × Int
def tokv (t : Tok) : List Value := [.int .i64 t.1, .int .i64 t.2.1, .int .i64 t.2.2]
def toks (T : List Tok) : List Value := T.flatMap tokv
theorem toks_len (T : List Tok) : (toks T).length = T.length * 3 := by
  induction T with
  | nil => rfl
  | cons t T ih => simp only [toks, List.flatMap_cons, List.length_append] at ih ⊢; rw [ih]; simp [tokv]; omega
theorem toks_app (T U : List Tok) : toks (T ++ U) = toks T ++ toks U := by simp [toks]
theorem toks_at (T : List Tok) (k : Nat) (h : k < T.length) :
    (toks T)[k * 3]? = some (.int .i64 T[k].1) ∧ (toks T)[k * 3 + 1]? = some (.int .i64 T[k].2.1) ∧ (toks T)[k * 3 + 2]? = some (.int .i64 T[k].2.2) := by
  induction T generalizing k with
  | nil => simp at h
  | cons t T ih =>
    have e : toks (t :: T) = tokv t ++ toks T := by simp [toks]
    rw [e]
    cases k with
    | zero => simp [tokv]
    | succ k =>
      have h2 : k < T.length := by simpa using h
      obtain ⟨a, b, c⟩ := ih k h2
      refine ⟨?_, ?_, ?_⟩
      · rw [List.getElem?_append_right (by simp [tokv]; omega), show (k + 1) * 3 - (tokv t).length = k * 3 by simp [tokv]; omega, a]; simp
      · rw [List.getElem?_append_right (by simp [tokv]; omega), show (k + 1) * 3 + 1 - (tokv t).length = k * 3 + 1 by simp [tokv]; omega, b]; simp
      · rw [List.getElem?_append_right (by simp [tokv]; omega), show (k + 1) * 3 + 2 - (tokv t).length = k * 3 + 2 by simp [tokv]; omega, c]; simp
theorem addr_next (ad : Addr) (i j : Nat) (hj : 0 < j) : (⟨(ad.add i).block, (ad.add i).off + j, none⟩ : Addr) = ad.add (i + j) := by
  unfold Addr.add
  rw [if_neg (show ¬ i + j = 0 by omega)]
  split
  · next h => subst h; simp
  · simp; omega
theorem SL.tok {w : World} {A : Option Addr} {n c : Nat} {T : List Tok} {k : Nat} (h : SL w 3 (.slice A n c) n (toks T)) (hk : k < n) (hn : T.length = n) (hkl : k < T.length) :
    ∃ ad, A = some ad ∧ ad.block < w.heap.size ∧ w.cell? (ad.add (k * 3)) = some (.int .i64 T[k].1) ∧ w.cell? ⟨(ad.add (k * 3)).block, (ad.add (k * 3)).off + 1, none⟩ = some (.int .i64 T[k].2.1) ∧ w.cell? ⟨(ad.add (k * 3)).block, (ad.add (k * 3)).off + 2, none⟩ = some (.int .i64 T[k].2.2) := by
  obtain ⟨A', c', e, _, _, h2, h3⟩ := h
  injection e with e1 e2 e3
  subst e1
  obtain ⟨ad, ea, hb, hc⟩ := h3 (by omega)
  obtain ⟨a, b, d⟩ := toks_at T k hkl
  exact ⟨ad, ea, hb, hc _ _ a, by rw [addr_next _ _ 1 (by omega)]; exact hc _ _ b, by rw [addr_next _ _ 2 (by omega)]; exact hc _ _ d⟩
set_option maxHeartbeats 400000 in
theorem eqTok_same (u v : Value) (T : List Tok) (w : World) (hu : SL w 3 u T.length (toks T)) (hv : SL w 3 v T.length (toks T)) :
    Calls Try.prog 45 #[u, v] w fun e w' => e = .returned (.bool true) ∧ Ext w w' := by
  have hu' := hu
  have hv' := hv
  obtain ⟨A, c, rfl, hc1, hc2, -, -⟩ := hu'
  obtain ⟨B, d, rfl, hd1, hd2, -, -⟩ := hv'
  go_enter Try.func45, Try.ntmps45
  go_wp2_with fail
  go_loopw [14] (fun i wr => ∃ k : Nat, k ≤ T.length ∧ i = .int .i64 k ∧ Ext w wr) (fun i _ => T.length - (intOf i).toNat)
  case atStart => exact ⟨0, by omega, rfl, Ext.refl w⟩
  case round =>
    obtain ⟨k, hk, rfl, hx⟩ := hrel
    by_cases hlt : k < T.length
    · obtain ⟨ad, rfl, -, h1, h2, h3⟩ := (hu.ext hx).tok hlt rfl hlt
      obtain ⟨bd, rfl, hbl, g1, g2, g3⟩ := (hv.ext hx).tok hlt rfl hlt
      generalize T[k] = t at *
      obtain ⟨t1, t2, t3⟩ := t
      go_wp2_with (refine wpList_alloc_abs' rfl (some 6) rfl 57 rfl _ (by kernel_rfl) ?_; intro w2 g2 hb2 hx2 hg2)
      have hxa := Ext.alloc (Ext.refl wr) (.cells #[.int .i64 t1, .int .i64 t2, .int .i64 t3] 57)
      have hn := Blk.new wr 57 #[.int .i64 t1, .int .i64 t2, .int .i64 t3]
      have n1 := hn.cell 0
      have n2 := hn.cell 1
      have n3 := hn.cell 2
      simp only [show (#[Value.int .i64 t1, .int .i64 t2, .int .i64 t3] : Array Value)[0]? = some (.int .i64 t1) from rfl] at n1
      simp only [show (#[Value.int .i64 t1, .int .i64 t2, .int .i64 t3] : Array Value)[1]? = some (.int .i64 t2) from rfl] at n2
      simp only [show (#[Value.int .i64 t1, .int .i64 t2, .int .i64 t3] : Array Value)[2]? = some (.int .i64 t3) from rfl] at n3
      have k1 := (hxa.cell (p := bd.add (k * 3)) (by rw [block_of_add]; exact hbl)).trans g1
      have k2 := (hxa.cell (p := ⟨(bd.add (k * 3)).block, (bd.add (k * 3)).off + 1, none⟩) (by show (bd.add (k * 3)).block < _; rw [block_of_add]; exact hbl)).trans g2
      have k3 := (hxa.cell (p := ⟨(bd.add (k * 3)).block, (bd.add (k * 3)).off + 2, none⟩) (by show (bd.add (k * 3)).block < _; rw [block_of_add]; exact hbl)).trans g3
      have hx2 := hx.trans hxa
      clear h1 h2 h3 g1 g2 g3 hn hxa
      generalize hw2 : wr.alloc (.cells #[.int .i64 t1, .int .i64 t2, .int .i64 t3] 57) = w2 at *
      clear hw2
      generalize wr.heap.size = gn at *
      go_quiet (fail)
      go_wp2_with fail
      go_roundw
      case rel => exact ⟨k + 1, by omega, by go_num, hx2.trans (below_drewN (Ext.refl w2) nq)⟩
      case measure => simp [intOf]; omega
    · go_wp2_with fail
      go_ret
      exact ⟨rfl, hx⟩
end Go.Proofs.Ytlcpkngbpjfnjaa
