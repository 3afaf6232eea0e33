/- The law StuffSplits, walked. -/
import Derived.Test.YtbnjapgmpjkooaaSplit
import Derived.Test.YtbnjapgmpjkooaaEqLists
import Derived.Test.YtbnjapgmpjkooaaEqInt
namespace Go.Proofs.Ytbnjapgmpjkooaa.stuffSplits
set_option linter.unusedVariables false
set_option linter.unusedSimpArgs false
open Go.RowKit
set_option maxRecDepth 20000 in
set_option maxHeartbeats 1000000 in
theorem walk (v : Value) (bs : List Nat) (hlt : ∀ b ∈ bs, b < 256) (hn : bs.length ≤ 1048576) (w : World) (hv : SL w 1 v bs.length (bytesV bs)) :
    Calls Try.prog 6 #[v] w fun e w' => e = .returned (.bool true) ∧ Ext w w' := by
  have H1 := hid_ (fun W (h : SL W 1 v bs.length (bytesV bs)) => split_any bs v W h hlt hn)
  have H2 := hid_ (fun W (h : SL W 1 v bs.length (bytesV bs)) => rsplit_any bs v W h hlt hn)
  have H3 : Hid (∀ x W, SL W 1 x 1 [.int .u8 255] → Calls Try.prog 18 #[x] W fun e w' => e = .returned (.tuple #[.slice none 0 0, .slice none 0 0, .int .i64 4]) ∧ Ext W w') := hid_ (fun x W h => split_any [255] x W h (by simp) (by simp))
  have HL := hid_ eqLists_same
  have HI := hid_ (fun x y zs W a b => eqInt_any x y zs zs W a b)
  clear hlt hn
  have HL0 : Hid (∀ W, Calls Try.prog 20 #[.slice none 0 0, .slice none 0 0] W fun e w' => e = .returned (.bool true) ∧ Ext W w') := hid_ (fun W => eqLists_same _ _ [] [] [] W (SL.nil _ _) ⟨rfl, fun i h => by simp at h⟩ (SL.nil _ _) ⟨rfl, fun i h => by simp at h⟩)
  have HI0 : Hid (∀ W, Calls Try.prog 13 #[.slice none 0 0, .slice none 0 0] W fun e w' => e = .returned (.bool true) ∧ W = w') := hid_ (fun W => eqInt_any _ _ [] [] W (SL.nil _ _) (SL.nil _ _))
  cases hz : spGo bs [] [] [] with
  | none =>
    rw [hz] at H1 H2
    unfold SpIs at H1 H2
    dsimp only at H1 H2
    go_enter Try.func6, Try.ntmps6
    go_wp2_with (first
      | (go_at_call 18; (with_reducible refine (H1.out _ hv).mono ?_); rintro e w2 ⟨rfl, hx2⟩)
      | (go_at_call 19; (with_reducible refine (H2.out _ (hv.ext hx2)).mono ?_); rintro e w3 ⟨rfl, hx3⟩)
      | (go_at_call 18; (with_reducible refine (H3.out _ _ (one_sl _ _ _)).mono ?_); rintro e w5 ⟨rfl, hx5⟩; have hx4 := (Ext.refl w3).alloc (.cells #[.int .u8 255] 5); have hx35 := hx4.trans hx5)
      | (go_at_call 20; (with_reducible refine (HL0.out _).mono ?_); rintro e w6 ⟨rfl, hx6⟩)
      | (go_at_call 13; (with_reducible refine (HI0.out _).mono ?_); rintro e w7 ⟨rfl, rfl⟩))
    go_ret
    exact ⟨by first | rfl | simp, ((hx2.trans hx3).trans hx35).trans hx6⟩
  | some z =>
    obtain ⟨P, M⟩ := z
    rw [hz] at H1 H2
    unfold SpIs at H1 H2
    dsimp only at H1 H2
    have hml : (M.map Int.ofNat).length = M.length := by simp
    go_enter Try.func6, Try.ntmps6
    go_wp2_with (first
      | (go_at_call 18; (with_reducible refine (H1.out _ hv).mono ?_); rintro e w2 ⟨A, c, B, d, VS, rfl, hs2, hp2, hm2, hx2⟩)
      | (go_at_call 19; (with_reducible refine (H2.out _ (hv.ext hx2)).mono ?_); rintro e w3 ⟨A', c', B', d', US, rfl, hs3, hp3, hm3, hx3⟩)
      | (go_at_call 18; (with_reducible refine (H3.out _ _ (one_sl _ _ _)).mono ?_); rintro e w5 ⟨rfl, hx5⟩; have hx4 := (Ext.refl w3).alloc (.cells #[.int .u8 255] 5); have hx35 := hx4.trans hx5)
      | (go_at_call 20; (with_reducible refine (HL.out _ _ P VS US _ ((hs2.ext hx3).ext hx35) ((hp2.ext hx3).ext hx35) (hs3.ext hx35) (hp3.ext hx35)).mono ?_); rintro e w6 ⟨rfl, hx6⟩)
      | (go_at_call 13; (with_reducible refine (HI.out _ _ (M.map Int.ofNat) _ (by rw [hml]; exact ((hm2.ext hx3).ext hx35).ext hx6) (by rw [hml]; exact (hm3.ext hx35).ext hx6)).mono ?_); rintro e w7 ⟨rfl, rfl⟩))
    go_ret
    exact ⟨by first | rfl | simp, ((hx2.trans hx3).trans hx35).trans hx6⟩
end Go.Proofs.Ytbnjapgmpjkooaa.stuffSplits
