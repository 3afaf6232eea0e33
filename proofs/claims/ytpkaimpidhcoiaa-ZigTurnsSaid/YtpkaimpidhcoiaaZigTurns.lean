/- The walk of the law ZigTurns. -/
import Derived.Test.YtpkaimpidhcoiaaQuietOps
import Derived.Test.YtpkaimpidhcoiaaZigTo
import Derived.Test.YtpkaimpidhcoiaaEqArr
import Derived.Test.YtpkaimpidhcoiaaOpen
namespace Go.Proofs.Ytpkaimpidhcoiaa.zigTurns
set_option linter.unusedVariables false
set_option linter.unusedSimpArgs false
open Go.RowKit
def lit5 : List Int := List.replicate 8 0 ++ [5] ++ List.replicate 55 0
theorem built_lit : Try.prog.built 27 [(8, .int .i64 5)] = some (bv lit5) := by kernel_rfl
theorem lit_at : (bv (zto lit5))[2]? = some (.int .i64 5) := by rw [bv_at _ 2 (by rw [zto_len]; omega)]; rfl
set_option maxHeartbeats 400000 in
theorem walk (zs : List Int) (hz : zs.length = 64) (_ : ∀ z ∈ zs, inI64 z) (w : World) :
    Calls Try.prog 5 #[.agg (bv zs)] w fun e w' => e = .returned (.bool true) ∧ Ext w w' := by
  have H1 := hid_ (fun W => zto_any zs W hz)
  have H2 := hid_ (fun W => rzto_any zs W hz)
  have H3 := hid_ (fun W => zfrom_any zs W hz)
  have H4 := hid_ (fun W => rzfrom_any zs W hz)
  have H5 := hid_ (fun W => zto_any lit5 W rfl)
  have HB := hid_ built_lit
  have HA := hid_ lit_at
  have hsz := hid_ ((bv_size zs).trans hz)
  have E1 := hid_ (fun W => run_eql48_same W (zto zs) (zto_len zs))
  have E2 := hid_ (fun W => run_eql48_same W (zfrom zs 64) (zfrom_len zs 64))
  generalize bv (zto zs) = ct at *
  generalize bv (zfrom zs 64) = cf at *
  generalize bv (zto lit5) = c5 at *
  generalize bv lit5 = c4 at *
  generalize bv zs = cz at *
  clear hz
  have HG : Hid (∀ (W : World), (eqGuard .eql 3 (.tmp 18) (.const (.int .i64 5)) (.int .i64 5) (.int .i64 5)).run Try.prog W = .ok () W) := hid_ (fun W => by go_simp)
  have HE : Hid (∀ (W : World), (binOp .eql 3 (.int .i64 5) (.int .i64 5)).run Try.prog W = .ok (.bool true) W) := hid_ (fun W => by go_simp)
  go_enter Try.func5, Try.ntmps5
  go_wp2_with (first
    | (refine wpList_box_abs rfl 27 (.tmp 0) rfl cz rfl ?_; intro w1 gz hbz1 hx1 hgz))
  refine wp_region_quiet (C := fun W => Ext w W ∧ Blk W gz 27 cz) (by kernel_rfl) (by kernel_rfl) ⟨hx1.drew, hbz1.drew⟩ ?_
  have step : ∀ (f : FuncId) (args : Array Value) (v : Value), (∀ W, Calls Try.prog f args W fun e w' => e = .returned v ∧ Ext W w') →
      ∀ W, (Ext w W ∧ Blk W gz 27 cz) → Calls Try.prog f args W fun e w' => e = .returned v ∧ (Ext w w' ∧ Blk w' gz 27 cz) :=
    fun f args v h W ⟨h1, h2⟩ => (h W).mono fun e w' ⟨he, hx⟩ => ⟨he, h1.trans hx, h2.ext hx⟩
  refine q_load_blk rfl 27 (.tmp 1) rfl gz rfl (fun W h => h.2) _ Try.underlying27 rfl 64 size48 hsz.out ?_
  simp only [Act.put, List.setIfInBounds_toArray, List.set_cons_succ, List.set_cons_zero]
  refine q_callF rfl 12 Try.func12 (by kernel_rfl) rfl _ _ rfl #[.agg cz] (by simp [Act.eval]) _ (step _ _ _ H1.out) ?_
  simp only [Act.put, List.setIfInBounds_toArray, List.set_cons_succ, List.set_cons_zero]
  refine q_load_blk rfl 27 (.tmp 1) rfl gz rfl (fun W h => h.2) _ Try.underlying27 rfl 64 size48 hsz.out ?_
  simp only [Act.put, List.setIfInBounds_toArray, List.set_cons_succ, List.set_cons_zero]
  refine q_callF rfl 13 Try.func13 (by kernel_rfl) rfl _ _ rfl #[.agg cz] (by simp [Act.eval]) _ (step _ _ _ H2.out) ?_
  simp only [Act.put, List.setIfInBounds_toArray, List.set_cons_succ, List.set_cons_zero]
  refine q_binOp rfl .eql 27 _ _ _ rfl (.agg ct) (.agg ct) rfl rfl (.bool true) (fun W => run_guard48 W _ _ _ _ _) E1.out ?_
  simp only [Act.put, List.setIfInBounds_toArray, List.set_cons_succ, List.set_cons_zero]
  refine q_move rfl _ rfl (.bool true) rfl ?_
  simp only [Act.put, List.setIfInBounds_toArray, List.set_cons_succ, List.set_cons_zero]
  refine q_load_blk rfl 27 (.tmp 1) rfl gz rfl (fun W h => h.2) _ Try.underlying27 rfl 64 size48 hsz.out ?_
  simp only [Act.put, List.setIfInBounds_toArray, List.set_cons_succ, List.set_cons_zero]
  refine q_callF rfl 14 Try.func14 (by kernel_rfl) rfl _ _ rfl #[.agg cz] (by simp [Act.eval]) _ (step _ _ _ H3.out) ?_
  simp only [Act.put, List.setIfInBounds_toArray, List.set_cons_succ, List.set_cons_zero]
  refine q_load_blk rfl 27 (.tmp 1) rfl gz rfl (fun W h => h.2) _ Try.underlying27 rfl 64 size48 hsz.out ?_
  simp only [Act.put, List.setIfInBounds_toArray, List.set_cons_succ, List.set_cons_zero]
  refine q_callF rfl 15 Try.func15 (by kernel_rfl) rfl _ _ rfl #[.agg cz] (by simp [Act.eval]) _ (step _ _ _ H4.out) ?_
  simp only [Act.put, List.setIfInBounds_toArray, List.set_cons_succ, List.set_cons_zero]
  refine q_binOp rfl .eql 27 _ _ _ rfl (.agg cf) (.agg cf) rfl rfl (.bool true) (fun W => run_guard48 W _ _ _ _ _) E2.out ?_
  simp only [Act.put, List.setIfInBounds_toArray, List.set_cons_succ, List.set_cons_zero]
  refine q_pick rfl _ _ _ rfl true rfl (.bool true) rfl ?_
  simp only [Act.put, List.setIfInBounds_toArray, List.set_cons_succ, List.set_cons_zero]
  refine q_move rfl _ rfl (.bool true) rfl ?_
  simp only [Act.put, List.setIfInBounds_toArray, List.set_cons_succ, List.set_cons_zero]
  refine q_build rfl 27 _ rfl c4 (by simpa [Act.eval] using HB.out) ?_
  simp only [Act.put, List.setIfInBounds_toArray, List.set_cons_succ, List.set_cons_zero]
  refine q_callF rfl 12 Try.func12 (by kernel_rfl) rfl _ _ rfl #[.agg c4] (by simp [Act.eval]) _ (step _ _ _ H5.out) ?_
  simp only [Act.put, List.setIfInBounds_toArray, List.set_cons_succ, List.set_cons_zero]
  refine q_index rfl 27 _ _ rfl (.agg c5) (.int .i64 2) rfl rfl (.int .i64 5) (fun W => run_index48 c5 2 _ (by omega) HA.out W) ?_
  simp only [Act.put, List.setIfInBounds_toArray, List.set_cons_succ, List.set_cons_zero]
  refine q_binOp rfl .eql 3 _ _ _ rfl (.int .i64 5) (.int .i64 5) rfl rfl (.bool true) HG.out HE.out ?_
  simp only [Act.put, List.setIfInBounds_toArray, List.set_cons_succ, List.set_cons_zero]
  refine q_pick rfl _ _ _ rfl true rfl (.bool true) rfl ?_
  simp only [Act.put, List.setIfInBounds_toArray, List.set_cons_succ, List.set_cons_zero]
  refine q_assign rfl _ rfl (.bool true) rfl ?_
  simp only [Act.put, List.setIfInBounds_toArray, List.set_cons_succ, List.set_cons_zero]
  refine wpQuiet_nil ?_
  intro w2 hw2
  go_wp2_with fail
  go_ret
  exact ⟨rfl, hw2.1⟩
end Go.Proofs.Ytpkaimpidhcoiaa.zigTurns
