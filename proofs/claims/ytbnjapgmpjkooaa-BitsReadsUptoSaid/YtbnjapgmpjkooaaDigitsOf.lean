/- digitsOf of the reference. -/
import Derived.Test.YtbnjapgmpjkooaaReadMath
import Derived.Test.YtbnjapgmpjkooaaBuilder
import Derived.Test.YtbnjapgmpjkooaaBinary
namespace Go.Proofs.Ytbnjapgmpjkooaa
set_option linter.unusedVariables false
set_option linter.unusedSimpArgs false
open Go.RowKit
theorem digsOf_succ (b : List Nat) (k : Nat) (h : k < b.length) : digsOf (b.take (k + 1)) = digsOf (b.take k) ++ digs b[k] 8 := by
  rw [List.take_succ_eq_append_getElem h, digsOf_append]
  simp [digsOf]
theorem bytes_get {bs : List Nat} {k : Nat} {u : Value} (h : (bytesV bs)[k]? = some u) : ∃ hk : k < bs.length, u = .int .u8 ((bs[k] : Nat) : Int) := by
  unfold bytesV at h
  rw [List.getElem?_map] at h
  obtain ⟨z, hz, rfl⟩ := Option.map_eq_some_iff.1 h
  obtain ⟨hk, rfl⟩ := List.getElem?_eq_some_iff.1 hz
  exact ⟨hk, rfl⟩
set_option maxRecDepth 20000 in
set_option maxHeartbeats 1000000 in
theorem digitsOf_any (bs : List Nat) (v : Value) (w : World) (hv : SL w 1 v bs.length (bytesV bs)) (hlt : ∀ b ∈ bs, b < 256) (hl : bs.length ≤ 1000000000000) :
    Calls Try.prog 36 #[v] w fun e w' => e = .returned (.string (strB (digsOf bs))) ∧ Ext w w' := by
  have hv' := hv
  obtain ⟨A, c, rfl, hc1, hc2, -, -⟩ := hv'
  have HB := hid_ hlt
  have HSU := hid_ (digsOf_succ bs)
  obtain ⟨n, hnn⟩ : ∃ n, n = bs.length := ⟨_, rfl⟩
  have HBL : Hid (bs.length = n) := hid_ hnn.symm
  rw [← hnn] at hv hl hc1 ⊢
  clear hnn hlt
  go_enter Try.func36, Try.ntmps36
  go_wp2_with (refine wpList_alloc_abs' rfl (some 3) rfl 67 rfl _ zeroBld ?_; intro w1 gw hbB hxB hgB)
  have hw0 := BldS.new w1 gw hbB
  clear hbB
  go_loopw [8] (fun i wr => ∃ (k : Nat) (r : Option Nat), k ≤ n ∧ i = .int .i64 (k : Int) ∧ BldS wr gw (digsOf (bs.take k)) r ∧ Ext w wr) (fun i _ => n - (intOf i).toNat)
  case atStart => exact ⟨0, none, by omega, rfl, by simpa [digsOf] using hw0, hxB⟩
  case round =>
    clear hw0
    obtain ⟨k, r, hk, rfl, hwr, hbl⟩ := hrel
    by_cases hlt : k < n
    · obtain ⟨ad, u, rfl, -, hxk, hcell⟩ := (hv.ext hbl).at1 hlt
      obtain ⟨hkl, rfl⟩ := bytes_get hxk
      have hx8 : bs[k] < 256 := HB.out _ (List.getElem_mem hkl)
      have HS := hid_ (HSU.out k hkl)
      clear hxk
      generalize bs[k] = x at *
      have hx64 : IntKind.i64.wrap (x : Int) = (x : Int) := IntWalk.i64_in _ (by omega)
      have HBI : Hid (∀ W, Calls Try.prog 31 #[.int .i64 8, .int .i64 (x : Int)] W fun e w' => e = .returned (.string (strB (digs x 8))) ∧ W = w') := hid_ (fun W => by
        have := binary_any 8 x W (by omega) (by omega)
        rw [binS_strB] at this
        exact this)
      have hll : (digsOf (bs.take k)).length ≤ 8 * k := by rw [digsOf_len, List.length_take]; omega
      have HDL := digs_len x 8
      have HP := hid_ (fun W h => writeString_any gw (digsOf (bs.take k)) (digs x 8) r W h (by omega))
      have hrow := hwr.row
      have hgb := hwr.lt
      generalize digs x 8 = D at *
      generalize hsD : strB D = sD at *
      clear hsD
      go_wp2_with (first
        | (go_at_call 31; (with_reducible refine (HBI.out _).mono ?_); rintro e w4 ⟨rfl, rfl⟩)
        | (go_at_call 30; (with_reducible refine (HP.out _ hwr).mono ?_); rintro e w5 ⟨rfl, r', hw5, hu5⟩))
      go_roundw
      case rel =>
        refine ⟨k + 1, r', by omega, by go_num, by rw [HS.out]; exact hw5, hu5.ext hbl (fun x hx => ?_)⟩
        rcases hx with rfl | hx
        · exact hgB
        · have := hrow x hx; omega
      case measure => simp [intOf]; omega
    · have e1 : bs.take k = bs := List.take_of_length_le (by have := HBL.out; omega)
      rw [e1] at hwr
      have HS := hid_ (fun W h => string_any gw (digsOf bs) r W h)
      have hrow := hwr.row
      generalize hsa : strB (digsOf bs) = sa at *
      have HSA := hid_ hsa
      clear hsa
      go_wp2_with (go_at_call 33; (with_reducible refine (HS.out _ hwr).mono ?_); rintro e w5 ⟨rfl, hu5⟩)
      go_ret
      exact ⟨by rw [HSA.out]; rfl, hu5.ext hbl (fun x hx => by have := hrow x hx; omega)⟩
end Go.Proofs.Ytbnjapgmpjkooaa
