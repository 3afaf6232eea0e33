/- bytesOf of the reference; Eq of bytes. -/
import Derived.Test.YtbnjapgmpjkooaaWriter
import Derived.Test.YtbnjapgmpjkooaaOwn
import Derived.Test.YtbnjapgmpjkooaaEqByte
namespace Go.Proofs.Ytbnjapgmpjkooaa
set_option linter.unusedVariables false
set_option linter.unusedSimpArgs false
open Go.RowKit
theorem Ext.grown' {a w w' : World} (h : Ext a w) {row : Option Nat} (hg : w.grownBy w' row) (hB : ∀ b, row = some b → a.heap.size ≤ b) : Ext a w' :=
  Below.grown h hg h.size (fun k hk => hB k hk)
def strLen : Value → Nat
  | .string b => b.size
  | _ => 0
theorem strB_one (l : List Bool) : strB (l ++ [true]) = strB l ++ ⟨#[49]⟩ := by rw [strB_append]; rfl
theorem replicate_snoc (L : List Bool) (j : Nat) : L ++ List.replicate (j + 1) true = (L ++ List.replicate j true) ++ [true] := by
  rw [List.replicate_succ', List.append_assoc]
theorem packB_take' (R : List Bool) (j : Nat) (h : j < R.length / 8) : (packB R).take (j + 1) = (packB R).take j ++ [numB ((R.drop (8 * j)).take 8)] := by
  rw [List.take_succ_eq_append_getElem (by rw [packB_len]; exact h)]
  simp [packB]
set_option maxRecDepth 20000 in
set_option maxHeartbeats 1000000 in
theorem bytesOf_any (L : List Bool) (w : World) (hl : L.length ≤ 1000000000) :
    Calls Try.prog 32 #[.string (strB L)] w fun e w' => ∃ A c, e = .returned (.slice A (packB (padB L)).length c) ∧ SL w' 1 (.slice A (packB (padB L)).length c) (packB (padB L)).length (bytesV (packB (padB L))) ∧ Ext w w' := by
  have HP : Hid (padB L = L ++ List.replicate ((8 - L.length % 8) % 8) true) := hid_ rfl
  have HPL := hid_ (padB_len L)
  have HPL2 : Hid ((padB L).length = L.length + (8 - L.length % 8) % 8) := hid_ (by simp [padB])
  generalize hP : padB L = P at *
  go_enter Try.func32, Try.ntmps32
  go_wp2_with fail
  go_loop [0] (fun s => ∃ j : Nat, j ≤ (8 - L.length % 8) % 8 ∧ s = .string (strB (L ++ List.replicate j true))) (fun s => (8 - strLen s % 8) % 8)
  case atStart => exact ⟨0, by omega, by simp⟩
  case round =>
    obtain ⟨j, hj, rfl⟩ := hrel
    have hsz : (strB (L ++ List.replicate j true)).size = L.length + j := by rw [strB_size]; simp
    have HS1 := hid_ (strB_one (L ++ List.replicate j true))
    have HRS := hid_ (replicate_snoc L j)
    have HSZ := hid_ hsz
    by_cases hlt : j < (8 - L.length % 8) % 8
    · generalize strB (L ++ List.replicate j true) = sb at *
      have hm : ((sb.size : Int) % 8 != 0) = true := by simp; omega
      have hlim : ¬ 9223372036854775807 < sb.size + 1 := by omega
      clear hsz
      go_wp2_with fail
      go_round
      case rel => exact ⟨j + 1, by omega, by rw [HRS.out, HS1.out]⟩
      case measure =>
        have := HSZ.out
        have h2 : (sb ++ (⟨#[49]⟩ : ByteArray)).size = sb.size + 1 := by rw [ByteArray.size_append]; rfl
        simp [strLen, h2]
        omega
    · have hjj : j = (8 - L.length % 8) % 8 := by omega
      rw [hjj, ← HP.out] at hsz ⊢
      have HX := hid_ (fun i j h => strB_extract P i j h)
      have HPK := hid_ (packB_len P)
      have HTK := hid_ (packB_take' P)
      have HPT := hid_ (fun (T : Nat) (h : P.length / 8 ≤ T) => (List.take_of_length_le (by rw [packB_len]; exact h) : (packB P).take T = packB P))
      have hm : ((L.length + (8 - L.length % 8) % 8 : Nat) : Int) % 8 = 0 := by omega
      rw [hjj] at HSZ
      rw [← HP.out] at HSZ
      generalize hn : L.length + (8 - L.length % 8) % 8 = n at *
      have hn8 : n % 8 = 0 := by omega
      have hnb : n ≤ 2000000000 := by omega
      have HPn : Hid (P.length = n) := hid_ HPL2.out
      generalize strB P = sb at *
      have hm2 : ((sb.size : Int) % 8 != 0) = false := by rw [hsz]; simp; omega
      have hszle : sb.size ≤ 2000000000 := by omega
      have hszn := hid_ hsz
      clear hsz hm hn hjj hlt hj HS1 HRS HSZ
      go_wp2_with fail
      go_loopw [3, 4] (fun v i wr => ∃ j : Nat, j ≤ n / 8 ∧ i = .int .i64 ((8 * j : Nat) : Int) ∧ OwnV wr w.heap.size 5 1 v j (bytesV ((packB P).take j)) ∧ Ext w wr) (fun _ i _ => n - (intOf i).toNat)
      case atStart => exact ⟨0, by omega, rfl, OwnV.nil _ _ _ _, Ext.refl _⟩
      case round =>
        obtain ⟨j, hj, rfl, ⟨B0, d0, rfl, hown⟩, hx⟩ := hrel
        by_cases hlt : j < n / 8
        · have hd : decide (((8 * j : Nat) : Int) < (sb.size : Int)) = true := by have := hszn.out; simp; omega
          have hi8 : 8 * j + 8 ≤ sb.size := by have := hszn.out; omega
          have HTJ := hid_ (HTK.out j (by rw [HPn.out]; omega))
          have hblen : ((P.drop (8 * j)).take 8).length ≤ 8 := List.length_take_le _ _
          have hy : numB ((P.drop (8 * j)).take 8) < 256 := by have := numB_le _ 8 hblen; simpa using this
          have HFB : Hid (∀ W, Calls Try.prog 37 #[.string (sb.extract (8 * j) (8 * j + 8))] W fun e w' => e = .returned (.int .i64 (numB ((P.drop (8 * j)).take 8) : Nat)) ∧ Ext W w') := hid_ (fun W => by
            rw [HX.out (8 * j) (8 * j + 8) (by omega), show 8 * j + 8 - 8 * j = 8 by omega]
            exact fromBin_any _ W (by omega))
          generalize numB ((P.drop (8 * j)).take 8) = y at *
          clear hblen
          go_wp2_with (first
            | (go_at_call 37; (with_reducible refine (HFB.out _).mono ?_); rintro e w5 ⟨rfl, hx5⟩)
            | (at_builtin; go_must (refine wpList_append_slf elt_u8 rfl _ _ rfl w.heap.size (.slice B0 j d0) _ _ rfl ((own_ext0' hown hx5).alloc _) _ 1 [.int .u8 _] rfl (one_sl _ _ _) (u8_one _) (by omega) (by omega) (by have := hx.size; have := hx5.size; simp; omega) ?_); intro A7 c7 w7 hown7 hg7 hrow7))
          go_roundw
          case rel =>
            refine ⟨j + 1, by omega, vint (by omega), ⟨A7, c7, rfl, ?_⟩, ((hx.trans hx5).alloc _).grown' hg7 ?_⟩
            · rw [HTJ.out, bytesV_snoc]
              exact hown7
            · intro b hb
              exact (hown.lt b hb).1
          case measure => simp [intOf]; omega
        · have ej : j = n / 8 := by omega
          rw [ej] at hown ⊢
          have hge : sb.size ≤ 8 * (n / 8) := by have := hszn.out; omega
          have HF := hid_ (HPT.out (n / 8) (by rw [HPn.out]; exact Nat.le_refl _))
          rw [HF.out] at hown
          have HPK' : Hid ((packB P).length = n / 8) := hid_ (by rw [HPK.out, HPn.out])
          generalize n / 8 = m at *
          go_wp2_with fail
          go_ret
          obtain ⟨h1, h2⟩ := own_out' hown
          rw [HPK'.out]
          exact ⟨B0, d0, rfl, h1, hx⟩
theorem rbytes_len (l : List Nat) : (bytesV l).length = l.length := bytesV_len l
end Go.Proofs.Ytbnjapgmpjkooaa
