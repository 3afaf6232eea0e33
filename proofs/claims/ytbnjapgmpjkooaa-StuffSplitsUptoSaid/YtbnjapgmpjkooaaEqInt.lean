import Derived.Test.YtbnjapgmpjkooaaBase
namespace Go.Proofs.Ytbnjapgmpjkooaa
set_option linter.unusedVariables false
set_option linter.unusedSimpArgs false
open Go.RowKit
def ints (zs : List Int) : List Value := zs.map (Value.int .i64)
theorem ints_at (zs : List Int) (k : Nat) (u : Value) (h : (ints zs)[k]? = some u) : ∃ hk : k < zs.length, u = .int .i64 zs[k] := by
  unfold ints at h
  rw [List.getElem?_map] at h
  obtain ⟨z, hz, rfl⟩ := Option.map_eq_some_iff.1 h
  obtain ⟨hk, e⟩ := List.getElem?_eq_some_iff.1 hz
  exact ⟨hk, by rw [e]⟩
theorem ints_len (zs : List Int) : (ints zs).length = zs.length := by simp [ints]
theorem take_succ_iff {α : Type} (xs ys : List α) (k : Nat) (h1 : k < xs.length) (h2 : k < ys.length) :
    xs.take (k + 1) = ys.take (k + 1) ↔ xs.take k = ys.take k ∧ xs[k] = ys[k] := by
  rw [List.take_succ_eq_append_getElem h1, List.take_succ_eq_append_getElem h2]
  constructor
  · intro h
    have := List.append_inj h (by simp; omega)
    exact ⟨this.1, by simpa using this.2⟩
  · rintro ⟨a, b⟩; rw [a, b]
set_option maxHeartbeats 400000 in
theorem eqInt_any (u v : Value) (xs ys : List Int) (w : World) (hu : SL w 1 u xs.length (ints xs)) (hv : SL w 1 v ys.length (ints ys)) :
    Calls Try.prog 13 #[u, v] w fun e w' => e = .returned (.bool (decide (xs = ys))) ∧ w = w' := by
  have hu' := hu
  have hv' := hv
  obtain ⟨A, c, rfl, hc1, hc2, -, -⟩ := hu'
  obtain ⟨B, d, rfl, hd1, hd2, -, -⟩ := hv'
  by_cases hl : (xs.length : Int) != ys.length
  · go_enter Try.func13, Try.ntmps13
    go_wp2
    go_ret
    refine ⟨?_, rfl⟩
    have : xs ≠ ys := by rintro rfl; simp at hl
    simp [this]
  · have h9 : (xs.length : Int) = ys.length := by simpa using hl
    have hl' : xs.length = ys.length := by omega
    clear h9
    have HL := hl'
    have hn : ((xs.length : Int) != ys.length) = false := by simpa using hl
    have HE : Hid (xs.length = ys.length) := HL
    clear hl HL
    go_enter Try.func13, Try.ntmps13
    clear hl'
    go_wp2
    go_loop [14] (fun i => ∃ k : Nat, k ≤ xs.length ∧ i = .int .i64 k ∧ xs.take k = ys.take k) (fun i => xs.length - (intOf i).toNat)
    case atStart => exact ⟨0, by omega, rfl, by simp⟩
    case round =>
      obtain ⟨k, hk, rfl, ht⟩ := hrel
      have HT : Hid (xs.take k = ys.take k) := ht
      clear ht
      by_cases hlt : k < xs.length
      · have hlt2 : k < ys.length := by have := HE.out; omega
        obtain ⟨ad, u, rfl, -, hx, hcell⟩ := hu.at1 hlt
        obtain ⟨_, rfl⟩ := ints_at _ _ _ hx
        obtain ⟨bd, u, rfl, -, hy, hcell2⟩ := hv.at1 hlt2
        obtain ⟨_, rfl⟩ := ints_at _ _ _ hy
        clear hx hy
        by_cases hq : xs[k] = ys[k]
        · have hq' : ((xs[k] : Int) != ys[k]) = false := by simpa using hq
          have HQ : Hid (xs[k] = ys[k]) := hq
          clear hq
          go_wp2
          go_round
          case rel => exact ⟨k + 1, by omega, by go_num, (take_succ_iff _ _ _ hlt hlt2).2 ⟨HT.out, HQ.out⟩⟩
          case measure => simp [intOf]; omega
        · have hq' : ((xs[k] : Int) != ys[k]) = true := by simpa using hq
          go_wp2
          go_ret
          refine ⟨?_, rfl⟩
          have : xs ≠ ys := by rintro rfl; exact hq rfl
          simp [this]
      · go_wp2
        go_ret
        refine ⟨?_, rfl⟩
        have e : xs = ys := by
          have := HT.out
          rwa [List.take_of_length_le (by omega), List.take_of_length_le (by have := HE.out; omega)] at this
        simp [e]
theorem Blk.ints {w : World} {g : Nat} {T : TypeId} {zs : List Int} (h : Blk w g T (ints zs).toArray) (hl : zs.length ≤ 9223372036854775807) :
    SL w 1 (.slice (some ⟨g, 0, none⟩) zs.length zs.length) zs.length (Go.Proofs.Ytbnjapgmpjkooaa.ints zs) := by
  have := h.sl (size := 1) (n := zs.length) (c := zs.length) (by simp [ints_len]) (Nat.le_refl _) hl
  simpa using this
/-- a literal against itself -/
theorem eqInt_lit (zs : List Int) (T : TypeId) (w1 : World) (hl : zs.length ≤ 9223372036854775807) (n g1 g2 : Nat) (hn : zs.length = n) (h1 : w1.heap.size = g1) (h2 : w1.heap.size + 1 = g2) (cs : List Value) (hcs : ints zs = cs) :
    Calls Try.prog 13 #[.slice (some ⟨g1, 0, none⟩) n n, .slice (some ⟨g2, 0, none⟩) n n] ((w1.alloc (.cells cs.toArray T)).alloc (.cells cs.toArray T)) fun e w' => e = .returned (.bool true) ∧ ((w1.alloc (.cells cs.toArray T)).alloc (.cells cs.toArray T)) = w' := by
  subst hn h1 h2 hcs
  have hA : Blk ((w1.alloc (.cells (ints zs).toArray T)).alloc (.cells (ints zs).toArray T)) w1.heap.size T (ints zs).toArray := (Blk.new w1 T _).alloc _
  have hB : Blk ((w1.alloc (.cells (ints zs).toArray T)).alloc (.cells (ints zs).toArray T)) (w1.heap.size + 1) T (ints zs).toArray := by
    have := Blk.new (w1.alloc (.cells (ints zs).toArray T)) T (ints zs).toArray
    rwa [World.size_alloc] at this
  exact (eqInt_any _ _ zs zs _ (hA.ints hl) (hB.ints hl)).mono fun e w' ⟨he, hw⟩ => ⟨by simpa using he, hw⟩
end Go.Proofs.Ytbnjapgmpjkooaa
