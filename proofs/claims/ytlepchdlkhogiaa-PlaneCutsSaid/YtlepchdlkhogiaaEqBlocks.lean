/- Eq[api.Block] of the reference: two lists of the same blocks. -/
import Derived.Test.YtlepchdlkhogiaaLoadAny
import Derived.Test.YtlepchdlkhogiaaEqArr
import Derived.Test.YtlepchdlkhogiaaPlane2
namespace Go.Proofs.Ytlepchdlkhogiaa
set_option linter.unusedVariables false
set_option linter.unusedSimpArgs false
open Go.RowKit
theorem bv_all_one (zs : List Int) : (ints zs).toArray.all (·.oneCell') = true := bv_one zs
theorem zeroBlk : ∃ z : Array Value, (Try.prog.info? 31).bind (·.zero) = some (.agg z) ∧ z.size = 64 := ⟨bv (List.replicate 64 0), by kernel_rfl, by simp [bv_size]⟩
set_option maxRecDepth 20000 in
set_option maxHeartbeats 1000000 in
theorem eqBlocks_same (u v : Value) (n : Nat) (Z : List Int) (w : World) (hz : Z.length = n * 64) (hu : SL w 64 u n (ints Z)) (hv : SL w 64 v n (ints Z)) :
    Calls Try.prog 13 #[u, v] w fun e w' => e = .returned (.bool true) ∧ Ext w w' := by
  have HZ := hid_ hz
  clear hz
  obtain ⟨zc, hzc, hz64⟩ := zeroBlk
  have HZC := hid_ hzc
  have HZ64 := hid_ hz64
  clear hzc hz64
  have hu' := hu
  have hv' := hv
  obtain ⟨A, c, rfl, hc1, hc2, -, -⟩ := hu'
  obtain ⟨B, d, rfl, hd1, hd2, -, -⟩ := hv'
  go_enter Try.func13, Try.ntmps13
  go_wp2_with fail
  go_loopw [14] (fun i wr => ∃ k : Nat, k ≤ n ∧ i = .int .i64 k ∧ Ext w wr) (fun i _ => n - (intOf i).toNat)
  case atStart => exact ⟨0, by omega, rfl, Ext.refl w⟩
  case round =>
    obtain ⟨k, hk, rfl, hx⟩ := hrel
    by_cases hlt : k < n
    · obtain ⟨ad, rfl, hab, hca⟩ := (hu.ext hx).part hlt
      obtain ⟨bd, rfl, hbb, hcb⟩ := (hv.ext hx).part hlt
      have e : ((ints Z).drop (k * 64)).take 64 = ints ((Z.drop (k * 64)).take 64) := by simp [ints, List.map_drop, List.map_take]
      have hl : ((Z.drop (k * 64)).take 64).length = 64 := by rw [List.length_take, List.length_drop, HZ.out]; omega
      rw [e] at hca hcb
      clear e
      generalize (Z.drop (k * 64)).take 64 = zs at *
      have HL := hid_ hl
      clear hl
      have HCA := hid_ hca
      have HS64 : Hid ((ints zs).toArray.size = 64) := hid_ (by simp [ints_len, HL.out])
      have HO := hid_ (bv_all_one zs)
      clear hca
      go_wp2_with (first
        | (refine wpList_load_any (by rfl) 31 (.tmp 17) rfl (ad.add (k * 64)) rfl (ints zs) _ HCA.out Try.underlying31 rfl (by rw [ints_len, HL.out]; exact size48) ?_)
        | (refine wpList_alloc_abs' rfl (some 6) rfl 31 rfl _ HZC.out ?_; intro w2 g2 hb2 hx2 hg2)
        | (refine wpList_store_blk rfl 31 (.tmp 6) (.tmp 18) rfl _ _ rfl rfl hb2 64 size48 HS64.out HZ64.out HO.out ?_; intro w3 hb3 hg3; have hx3 := hx2.grown hg3 (by omega)))
      have hx3' := hx3.drew
      have hb3' := hb3.drew
      have HCB : Hid (∀ W, Ext w3.drew W → CellsAt W (bd.add (k * 64)) (ints zs)) := hid_ (fun W hW j q hq => by
        rw [((hx3'.trans hW).cell (p := (bd.add (k * 64)).add j) (by rw [block_of_add, block_of_add]; exact hbb))]
        exact hcb j q hq)
      refine wp_region_lx later_ext (by kernel_rfl) (by kernel_rfl) ?_
      refine lx_load_blk (by rfl) 31 (.tmp 6) rfl g2 rfl (fun w h => hb3'.ext h) _ Try.underlying31 rfl 64 size48 HS64.out ?_
      simp only [Act.put, List.setIfInBounds_toArray, List.set_cons_succ, List.set_cons_zero]
      iterate 3 (refine lx_ex (by rfl) ?_; apply Exists.intro; refine ⟨fun w hw => ?_, ?_⟩; · (go_simp; with_reducible rfl)
                 simp only [Act.put, List.setIfInBounds_toArray, List.set_cons_succ, List.set_cons_zero])
      refine lx_load_any (by rfl) 31 (.tmp 22) rfl (bd.add (k * 64)) rfl (ints zs) _ HCB.out Try.underlying31 rfl (by rw [ints_len, HL.out]; exact size48) ?_
      simp only [Act.put, List.setIfInBounds_toArray, List.set_cons_succ, List.set_cons_zero]
      refine lx_binOp (by rfl) .neq 31 _ _ _ rfl (.agg (bv zs)) (.agg (bv zs)) rfl rfl (.bool false) (fun W => run_guard48 W _ _ _ _ _) (fun W => by rw [run_neq48 W zs zs HL.out HL.out]; simp) ?_
      simp only [Act.put, List.setIfInBounds_toArray, List.set_cons_succ, List.set_cons_zero]
      refine lx_nil ?_
      intro w4 hx4
      go_wp2_with fail
      go_roundw
      case rel => exact ⟨k + 1, by omega, by go_num, (hx.trans hx3').trans hx4⟩
      case measure => simp [intOf]; omega
    · go_wp2_with fail
      go_ret
      exact ⟨rfl, hx⟩
end Go.Proofs.Ytlepchdlkhogiaa
