/- Contracts for the law DeskRunsCard, part 12: what the functions that it reaches answer, for all arguments that the theorems name. -/
import Derived.Test.YtlhggcbpipmjhaaGreatDoorMDeskRunsCard11
import Derived.Test.YtlhggcbpipmjhaaGreatDoorMDeskRunsCard8
import Derived.Test.YtlhggcbpipmjhaaGreatDoorMDeskRunsCard6
import Derived.Test.YtlhggcbpipmjhaaGreatDoorMDeskRunsCard2
import Derived.Test.YtlhggcbpipmjhaaGreatDoorMDeskRunsCard4
import Derived.Test.YtlhggcbpipmjhaaGreatDoorMDeskRunsCard7
namespace Go.Proofs.YtlhggcbpipmjhaaGreatDoor
set_option linter.unusedVariables false
set_option linter.unusedSimpArgs false
open Go.RowKit
theorem ex_loadMid {P : Program} {o : Oper} {a : Act} {ty : TypeId} {x : Operand} (ho : o.op = .load ty x) {g off : Nat} (hx : a.eval x = .pointer (some ⟨g, off, none⟩)) {w : World} (cs : List Value) (d : TypeDesc) (hc : w.rangeAt g off cs)
 (hu : P.underlying ty = some d) (hd : d.isRow = true) (hi : (P.info? ty).map (·.size) = some cs.length) : (execOp a.eval o).run P w = .ok (.value (.agg cs.toArray)) w := by
 unfold execOp
 simp only [ho, hx, Instr.loadAt, Instr.sureAddr, Sem.run_bind, Sem.run_pure, Result.andThen_ok, run_loadVar_mid w g off ty cs d hc hu hd hi]
def BlkF (f : FuncId) (R : List Int → List Int → List Int × Int) : Prop :=
 Goes Tryz.prog f ∧ (∀ b q, StOk b q → (R b q).1.length = 64) ∧ ∀ g b q w, StOk b q → Desk w g b q → Calls Tryz.prog f #[.pointer (some ⟨g, 0, none⟩)] w fun e w' => e = .returned (.tuple #[.agg (bv (R b q).1), .int .i64 (R b q).2]) ∧ Ext w w'
set_option maxHeartbeats 1000000 in
theorem blkF_wave : BlkF 37 fun b _ => waveR toC b := by
 refine ⟨⟨_, Tryz.func37, rfl, rfl⟩, fun b q h => waveR_len _ _, fun g b q w hS hD => ?_⟩
 have HW := hid_ (fun W => waveTo_any b W hS.1)
 have hr := hid_ ((bv_size _).trans (waveR_len toC b))
 have ho := hid_ (bv_one (waveR toC b).1)
 have hz : Hid ((Value.agg (bv zeros64)).cells.size = 64) := hid_ (by rw [show (Value.agg (bv zeros64)).cells = bv zeros64 from rfl, bv_size]; rfl)
 have HB := hid_ hS.1
 dsimp only
 generalize bv (waveR toC b).1 = cr at *
 generalize (waveR toC b).2 = er at *
 go_enter Tryz.func37, Tryz.ntmps37
 go_wp2_with (first
  | ((with_reducible apply gS 2); refine wpList_alloc_abs rfl 30 rfl _ zero48 ?_; intro w1 gr hb1 hx1 hgr)
  | ((with_reducible apply gS 7); refine wpList_load_mid rfl 30 (.tmp 6) rfl g 0 rfl (ints b) _ (hD.ext hx1).block Tryz.underlying30 rfl (by rw [ints_len, HB.out]; exact size48) ?_)
  | (go_at_call 38; refine (HW.out _).mono ?_; rintro e w2 ⟨rfl, hx2⟩; have hb2 := hb1.ext hx2)
  | ((with_reducible apply gT 2 9); refine wStB rfl 30 (.tmp 2) (.tmp 9) rfl gr cr rfl rfl hb2 64 size48 hr.out hz.out ho.out ?_; intro w3 hb3 hg3))
 exact ret_cell_tmp rfl rfl _ rfl hb3 _ Tryz.underlying30 rfl 64 size48 hr.out ⟨rfl, (hx1.trans hx2).grown hg3 hgr⟩
set_option maxHeartbeats 1000000 in
theorem blkF_back : BlkF 39 fun b _ => waveR frC b := by
 refine ⟨⟨_, Tryz.func39, rfl, rfl⟩, fun b q h => waveR_len _ _, fun g b q w hS hD => ?_⟩
 have HW := hid_ (fun W => waveFrom_any b W hS.1)
 have hr := hid_ ((bv_size _).trans (waveR_len frC b))
 have ho := hid_ (bv_one (waveR frC b).1)
 have hz : Hid ((Value.agg (bv zeros64)).cells.size = 64) := hid_ (by rw [show (Value.agg (bv zeros64)).cells = bv zeros64 from rfl, bv_size]; rfl)
 have HB := hid_ hS.1
 dsimp only
 generalize bv (waveR frC b).1 = cr at *
 generalize (waveR frC b).2 = er at *
 go_enter Tryz.func39, Tryz.ntmps39
 go_wp2_with (first
  | ((with_reducible apply gS 2); refine wpList_alloc_abs rfl 30 rfl _ zero48 ?_; intro w1 gr hb1 hx1 hgr)
  | ((with_reducible apply gS 7); refine wpList_load_mid rfl 30 (.tmp 6) rfl g 0 rfl (ints b) _ (hD.ext hx1).block Tryz.underlying30 rfl (by rw [ints_len, HB.out]; exact size48) ?_)
  | (go_at_call 40; refine (HW.out _).mono ?_; rintro e w2 ⟨rfl, hx2⟩; have hb2 := hb1.ext hx2)
  | ((with_reducible apply gT 2 9); refine wStB rfl 30 (.tmp 2) (.tmp 9) rfl gr cr rfl rfl hb2 64 size48 hr.out hz.out ho.out ?_; intro w3 hb3 hg3))
 exact ret_cell_tmp rfl rfl _ rfl hb3 _ Tryz.underlying30 rfl 64 size48 hr.out ⟨rfl, (hx1.trans hx2).grown hg3 hgr⟩
set_option maxHeartbeats 1000000 in
theorem blkF_down : BlkF 41 fun b q => bothZ downF b q 40000 := by
 refine ⟨⟨_, Tryz.func41, rfl, rfl⟩, fun b q h => bothZ_len _ _ _ _ h.1 h.2.1, fun g b q w hS hD => ?_⟩
 have HW := hid_ (fun W => down_any b q W hS.1 hS.2.1)
 have hr := hid_ ((bv_size _).trans (bothZ_len downF b q 40000 hS.1 hS.2.1))
 have ho := hid_ (bv_one (bothZ downF b q 40000).1)
 have hz : Hid ((Value.agg (bv zeros64)).cells.size = 64) := hid_ (by rw [show (Value.agg (bv zeros64)).cells = bv zeros64 from rfl, bv_size]; rfl)
 have HB := hid_ hS.1
 have HQ := hid_ hS.2.1
 have HSB : Hid ((Tryz.prog.info? 30).map (·.size) = some (ints b).length) := hid_ (by rw [ints_len, hS.1]; exact size48)
 have HSQ : Hid ((Tryz.prog.info? 30).map (·.size) = some (ints q).length) := hid_ (by rw [ints_len, hS.2.1]; exact size48)
 dsimp only
 generalize bv (bothZ downF b q 40000).1 = cr at *
 generalize (bothZ downF b q 40000).2 = er at *
 go_enter Tryz.func41, Tryz.ntmps41
 go_upto_region 1 with ((with_reducible apply gS 2); refine wpList_alloc_abs rfl 30 rfl _ zero48 ?_; intro w1 gr hb1 hx1 hgr)
 have hx7 := hx1.drew
 have hb7 : Blk w1.drew gr 30 (bv zeros64) := hb1
 refine wp_region_lxt later_ext 11 (by kernel_rfl) (by kernel_rfl) ?_
 simp only [List.take, List.drop]
 refine lx_run (by rfl) (.pointer (some ⟨g, 0, none⟩)) (ex_move rfl rfl) ?_
 simp only [Act.put, sA, sB, sC]
 refine lx_run (by rfl) (.pointer (some ⟨g, 0, none⟩)) (ex_nilP rfl rfl) ?_
 simp only [Act.put, sA, sB, sC]
 refine lx_run (by rfl) (.pointer (some ⟨g, 0, none⟩)) (fun W => by go_simp) ?_
 simp only [Act.put, sA, sB, sC]
 refine lx_read (by rfl) (.agg (bv b)) (fun W hW => ex_loadMid rfl rfl (ints b) _ (hD.ext (hx7.trans hW)).block Tryz.underlying30 rfl HSB.out) ?_
 simp only [Act.put, sA, sB, sC]
 refine lx_run (by rfl) (.pointer (some ⟨g, 0, none⟩)) (ex_move rfl rfl) ?_
 simp only [Act.put, sA, sB, sC]
 refine lx_run (by rfl) (.pointer (some ⟨g, 0, none⟩)) (ex_nilP rfl rfl) ?_
 simp only [Act.put, sA, sB, sC]
 refine lx_run (by rfl) (.pointer (some ⟨g, 64, none⟩)) (fun W => by go_simp) ?_
 simp only [Act.put, sA, sB, sC]
 refine lx_read (by rfl) (.agg (bv q)) (fun W hW => ex_loadMid rfl rfl (ints q) _ ((hD.ext (hx7.trans hW)).coarse HB.out) Tryz.underlying30 rfl HSQ.out) ?_
 simp only [Act.put, sA, sB, sC]
 refine lx_callF (by rfl) 42 Tryz.func42 rfl rfl _ _ rfl #[.agg (bv b), .agg (bv q)] (by simp [Act.eval]) (.tuple #[.agg cr, .int .i64 er]) (fun W _ => HW.out W) ?_
 simp only [Act.put, sA, sB, sC]
 refine lx_run (by rfl) (.agg cr) (ex_extract rfl rfl rfl) ?_
 simp only [Act.put, sA, sB, sC]
 refine lx_run (by rfl) (.int .i64 er) (ex_extract rfl rfl rfl) ?_
 simp only [Act.put, sA, sB, sC]
 refine lx_nil ?_
 intro W hW
 have hb8 := hb7.ext hW
 have hx8 := hx7.trans hW
 go_wp2_with ((with_reducible apply gT 2 13); refine wStB rfl 30 (.tmp 2) (.tmp 13) rfl gr cr rfl rfl hb8 64 size48 hr.out hz.out ho.out ?_; intro w3 hb3 hg3)
 exact ret_cell_tmp rfl rfl _ rfl hb3 _ Tryz.underlying30 rfl 64 size48 hr.out ⟨rfl, hx8.grown hg3 hgr⟩
set_option maxHeartbeats 1000000 in
theorem blkF_up : BlkF 43 fun b q => bothZ upF b q 2047 := by
 refine ⟨⟨_, Tryz.func43, rfl, rfl⟩, fun b q h => bothZ_len _ _ _ _ h.1 h.2.1, fun g b q w hS hD => ?_⟩
 have HW := hid_ (fun W => up_any b q W hS.1 hS.2.1)
 have hr := hid_ ((bv_size _).trans (bothZ_len upF b q 2047 hS.1 hS.2.1))
 have ho := hid_ (bv_one (bothZ upF b q 2047).1)
 have hz : Hid ((Value.agg (bv zeros64)).cells.size = 64) := hid_ (by rw [show (Value.agg (bv zeros64)).cells = bv zeros64 from rfl, bv_size]; rfl)
 have HB := hid_ hS.1
 have HQ := hid_ hS.2.1
 have HSB : Hid ((Tryz.prog.info? 30).map (·.size) = some (ints b).length) := hid_ (by rw [ints_len, hS.1]; exact size48)
 have HSQ : Hid ((Tryz.prog.info? 30).map (·.size) = some (ints q).length) := hid_ (by rw [ints_len, hS.2.1]; exact size48)
 dsimp only
 generalize bv (bothZ upF b q 2047).1 = cr at *
 generalize (bothZ upF b q 2047).2 = er at *
 go_enter Tryz.func43, Tryz.ntmps43
 go_upto_region 1 with ((with_reducible apply gS 2); refine wpList_alloc_abs rfl 30 rfl _ zero48 ?_; intro w1 gr hb1 hx1 hgr)
 have hx7 := hx1.drew
 have hb7 : Blk w1.drew gr 30 (bv zeros64) := hb1
 refine wp_region_lxt later_ext 11 (by kernel_rfl) (by kernel_rfl) ?_
 simp only [List.take, List.drop]
 refine lx_run (by rfl) (.pointer (some ⟨g, 0, none⟩)) (ex_move rfl rfl) ?_
 simp only [Act.put, sA, sB, sC]
 refine lx_run (by rfl) (.pointer (some ⟨g, 0, none⟩)) (ex_nilP rfl rfl) ?_
 simp only [Act.put, sA, sB, sC]
 refine lx_run (by rfl) (.pointer (some ⟨g, 0, none⟩)) (fun W => by go_simp) ?_
 simp only [Act.put, sA, sB, sC]
 refine lx_read (by rfl) (.agg (bv b)) (fun W hW => ex_loadMid rfl rfl (ints b) _ (hD.ext (hx7.trans hW)).block Tryz.underlying30 rfl HSB.out) ?_
 simp only [Act.put, sA, sB, sC]
 refine lx_run (by rfl) (.pointer (some ⟨g, 0, none⟩)) (ex_move rfl rfl) ?_
 simp only [Act.put, sA, sB, sC]
 refine lx_run (by rfl) (.pointer (some ⟨g, 0, none⟩)) (ex_nilP rfl rfl) ?_
 simp only [Act.put, sA, sB, sC]
 refine lx_run (by rfl) (.pointer (some ⟨g, 64, none⟩)) (fun W => by go_simp) ?_
 simp only [Act.put, sA, sB, sC]
 refine lx_read (by rfl) (.agg (bv q)) (fun W hW => ex_loadMid rfl rfl (ints q) _ ((hD.ext (hx7.trans hW)).coarse HB.out) Tryz.underlying30 rfl HSQ.out) ?_
 simp only [Act.put, sA, sB, sC]
 refine lx_callF (by rfl) 44 Tryz.func44 rfl rfl _ _ rfl #[.agg (bv b), .agg (bv q)] (by simp [Act.eval]) (.tuple #[.agg cr, .int .i64 er]) (fun W _ => HW.out W) ?_
 simp only [Act.put, sA, sB, sC]
 refine lx_run (by rfl) (.agg cr) (ex_extract rfl rfl rfl) ?_
 simp only [Act.put, sA, sB, sC]
 refine lx_run (by rfl) (.int .i64 er) (ex_extract rfl rfl rfl) ?_
 simp only [Act.put, sA, sB, sC]
 refine lx_nil ?_
 intro W hW
 have hb8 := hb7.ext hW
 have hx8 := hx7.trans hW
 go_wp2_with ((with_reducible apply gT 2 13); refine wStB rfl 30 (.tmp 2) (.tmp 13) rfl gr cr rfl rfl hb8 64 size48 hr.out hz.out ho.out ?_; intro w3 hb3 hg3)
 exact ret_cell_tmp rfl rfl _ rfl hb3 _ Tryz.underlying30 rfl 64 size48 hr.out ⟨rfl, hx8.grown hg3 hgr⟩
theorem mix_set (F b : List Int) (k : Nat) (h : k < F.length) (hb : k < b.length) : (F.take k ++ b.drop k).set k F[k] = F.take (k + 1) ++ b.drop (k + 1) := by
 have hl : (F.take k).length = k := by simp; omega
 rw [List.set_append_right _ _ (by omega), hl, Nat.sub_self, List.drop_eq_getElem_cons hb, List.set_cons_zero, List.take_succ_eq_append_getElem h, List.append_assoc]
 rfl
set_option maxHeartbeats 2000000 in
theorem by1_any (f : FuncId) (R : List Int → List Int → List Int × Int) (hf : BlkF f R) (g gf : Nat) (b q : List Int) (v : Value) (w : World) (hS : StOk b q) (hD : Desk w g b q) (hlf : gf < w.heap.size) (hF : w.cell? ⟨gf, 0, none⟩ = some (.func (.func f) #[] #[])) :
 Calls Tryz.prog 67 #[.pointer (some ⟨g, 0, none⟩), v, .pointer (some ⟨gf, 0, none⟩)] w (ActIs (byZ (R b q) b q) g w) := by
 have HL := hid_ (hf.2.1 b q hS)
 have HC := hid_ (hf.2.2 g b q w hS hD)
 have HG := hid_ hf.1
 have HF := hid_ hF
 have HB := hid_ hS.1
 have HQ := hid_ hS.2.1
 unfold byZ
 generalize R b q = r at *
 obtain ⟨B, E⟩ := r
 dsimp only at HL HC ⊢
 clear hf hS hF
 have hsr := hid_ ((bv_size B).trans HL.out)
 have hor := hid_ (bv_one B)
 have hz : Hid ((Value.agg (bv zeros64)).cells.size = 64) := hid_ (by rw [show (Value.agg (bv zeros64)).cells = bv zeros64 from rfl, bv_size]; rfl)
 have HCZ := hid_ (rfl : bv B = bv B)
 by_cases hE : E = 0
 ·subst hE
  rw [if_pos rfl]
  obtain ⟨cb, hcb⟩ : ∃ cb, bv B = cb := ⟨_, rfl⟩
  have HCB := hid_ hcb
  rw [hcb] at hsr hor HC
  clear hcb HCZ
  have HFL : Hid ((B.map fun z => clampZ z (-40000) 40000).length = 64) := hid_ (by rw [List.length_map]; exact HL.out)
  obtain ⟨F, hFd⟩ : ∃ F, (B.map fun z => clampZ z (-40000) 40000) = F := ⟨_, rfl⟩
  have HFD := hid_ hFd
  rw [hFd] at HFL ⊢
  clear hFd
  go_enter Tryz.func67, Tryz.ntmps67
  go_wp2_with (first
   | ((with_reducible apply gS 12); refine wl_read rfl (.func (.func f) #[] #[]) (ex_loadF Tryz.underlying76 rfl rfl rfl HF.out) ?_)
   | ((with_reducible apply gS 14); refine wl_enter (by rfl) (run_callv (.tmp 12) #[.tmp 13] _ rfl rfl HG.out #[.pointer (some ⟨g, 0, none⟩)] (by simp [Act.eval])) ?_; refine HC.out.mono ?_; rintro e w1 ⟨rfl, hx1⟩; refine ⟨_, rfl, ?_⟩)
   | ((with_reducible apply gS 7); refine wAlo' rfl (some 7) rfl 30 rfl _ zero48 ?_; intro w2 gz hbz hx2 hgz)
   | ((with_reducible apply gT 7 15); refine wStB rfl 30 (.tmp 7) (.tmp 15) rfl gz cb rfl rfl hbz 64 size48 hsr.out hz.out hor.out ?_; intro w3 hb3 hg3; have hx3 := (hx1.trans hx2).grown hg3 (by have := hx1.size; omega))
   | ((with_reducible apply gS 20); refine wLdB rfl 30 (.tmp 7) rfl _ rfl hb3 _ Tryz.underlying30 rfl 64 size48 hsr.out ?_))
  go_loopw [21] (fun iv wr => ∃ k : Nat, k ≤ 64 ∧ iv = .int .i64 (k : Int) ∧ Desk wr g (F.take k ++ b.drop k) q ∧ Upd (fun x => x = g) w wr) (fun iv _ => 64 - (intOf iv).toNat)
  case atStart => exact ⟨0, by omega, rfl, by simpa using hD.ext hx3, Upd.of_ext hx3⟩
  case round =>
   obtain ⟨k, hk, rfl, hd, hu⟩ := hrel
   by_cases hlt : k < 64
   ·have hkB : k < B.length := by rw [HL.out]; exact hlt
    have hkF : k < F.length := by rw [HFL.out]; exact hlt
    have hkb : k < b.length := by rw [HB.out]; exact hlt
    have hix := fun W => run_index48 cb k (.int .i64 B[k]) hlt (by rw [← HCB.out]; exact bv_at B k hkB) W
    have hFk : F[k] = clampZ B[k] (-40000) 40000 := by simp only [← HFD.out, List.getElem_map]
    have HWI := hid_ (fun W => within_any B[k] 40000 W (by omega) (by omega))
    rw [← hFk] at HWI
    have HMX := hid_ (mix_set F b k hkF hkb)
    have hll : (F.take k ++ b.drop k).length = 64 := by simp [HFL.out, HB.out]; omega
    have HLL := hid_ hll
    generalize F[k] = z at *
    generalize B[k] = y at *
    clear hFk hll
    go_upto_region 7 with fail
    have hd7 : Desk wr.drew g (F.take k ++ b.drop k) q := hd
    have hu7 : Upd (fun x => x = g) w wr.drew := hu.drew
    refine wp_region_lxt later_ext 7 (by kernel_rfl) (by kernel_rfl) ?_
    simp only [List.take, List.drop]
    refine lx_run (by rfl) (.pointer (some ⟨g, 0, none⟩)) (ex_move rfl rfl) ?_
    simp only [Act.put, sA, sB, sC]
    refine lx_run (by rfl) (.int .i64 (k : Int)) (ex_move rfl rfl) ?_
    simp only [Act.put, sA, sB, sC]
    refine lx_run (by rfl) (.int .i64 y) (ex_move rfl rfl) ?_
    simp only [Act.put, sA, sB, sC]
    refine lx_callF (by rfl) 68 Tryz.func68 rfl rfl _ _ rfl #[.int .i64 y, .int .i64 40000] (by simp [Act.eval]) (.int .i64 z) (fun W _ => (HWI.out W).mono fun e w' ⟨e1, e2⟩ => ⟨e1, e2 ▸ Ext.refl W⟩) ?_
    simp only [Act.put, sA, sB, sC]
    refine lx_run (by rfl) (.pointer (some ⟨g, 0, none⟩)) (ex_nilP rfl rfl) ?_
    simp only [Act.put, sA, sB, sC]
    refine lx_run (by rfl) (.pointer (some ⟨g, 0, none⟩)) (fun W => by go_simp) ?_
    simp only [Act.put, sA, sB, sC]
    refine lx_run (by rfl) (.pointer (some ⟨g, k, none⟩)) (ex_ixArr0 Tryz.underlying30 sizeI rfl (i := k) rfl rfl hlt) ?_
    simp only [Act.put, sA, sB, sC]
    refine lx_nil ?_
    intro W hW
    have hd8 := hd7.ext hW
    refine wl_storeI rfl (.tmp 31) (.tmp 28) rfl g k z rfl rfl hd8 (by rw [bv_size, List.length_append, HLL.out]; omega) ?_
    simp only [Act.put, sA, sB, sC]
    have hd9 := hd8.set k (by rw [HLL.out]; exact hlt) z
    rw [HMX.out] at hd9
    have hu9 : Upd (fun x => x = g) w (W.setCell ⟨g, k, none⟩ (.int .i64 z)) := Upd.setCell (S := fun x => x = g) (hu7.trans (Upd.of_ext hW) (fun x h => .inl h)) (p := ⟨g, k, none⟩) rfl (.int .i64 z)
    generalize W.setCell ⟨g, k, none⟩ (.int .i64 z) = W9 at *
    go_wp2_with fail
    go_roundw
    case rel => exact ⟨k + 1, by omega, by go_num, hd9, hu9⟩
    case measure => simp [intOf]; omega
   ·have ek : k = 64 := by omega
    subst ek
    have e9 : F.take 64 ++ b.drop 64 = F := by
     rw [List.take_of_length_le (by rw [HFL.out]; omega), List.drop_eq_nil_of_le (by rw [HB.out]; omega), List.append_nil]
    rw [e9] at hd
    go_wp2_with fail
    go_ret2
    exact okAct hd hu
 ·rw [if_neg hE]
  have HE := hid_ hE
  have hz2 : (E != 0) = true := by simpa using hE
  clear hE HCZ
  generalize bv B = cb at *
  go_enter Tryz.func67, Tryz.ntmps67
  go_wp2_with (first
   | ((with_reducible apply gS 12); refine wl_read rfl (.func (.func f) #[] #[]) (ex_loadF Tryz.underlying76 rfl rfl rfl HF.out) ?_)
   | ((with_reducible apply gS 14); refine wl_enter (by rfl) (run_callv (.tmp 12) #[.tmp 13] _ rfl rfl HG.out #[.pointer (some ⟨g, 0, none⟩)] (by simp [Act.eval])) ?_; refine HC.out.mono ?_; rintro e w1 ⟨rfl, hx1⟩; refine ⟨_, rfl, ?_⟩)
   | ((with_reducible apply gS 7); refine wAlo' rfl (some 7) rfl 30 rfl _ zero48 ?_; intro w2 gz hbz hx2 hgz)
   | ((with_reducible apply gT 7 15); refine wStB rfl 30 (.tmp 7) (.tmp 15) rfl gz cb rfl rfl hbz 64 size48 hsr.out hz.out hor.out ?_; intro w3 hb3 hg3; have hx3 := (hx1.trans hx2).grown hg3 (by have := hx1.size; omega)))
  go_ret2
  exact noAct HE.out hD hx3
theorem sizeTok : (Tryz.prog.info? 59).map (·.size) = some 3 := by kernel_rfl
theorem zeroTok : (Tryz.prog.info? 59).bind (·.zero) = some (.agg (tokv (0, 0, 0)).toArray) := by kernel_rfl
theorem elt_tok : Elt Tryz.prog 55 59 3 24 := ⟨Tryz.underlying55, by kernel_rfl, by omega⟩
theorem bitsZ_bd (n : Int) : 0 ≤ (bitsZ n).1 ∧ (bitsZ n).1 ≤ 12 := by
 unfold bitsZ
 split
 ·next h => have := (szN_spec n h.1 h.2).1; simp; omega
 ·simp
theorem three_one (a b c : Int) : (#[Value.int .i64 a, .int .i64 b, .int .i64 c] : Array Value).all (·.oneCell') = true := by
 rw [Array.all_eq_true']
 intro x hx
 simp at hx
 rcases hx with rfl | rfl | rfl <;> rfl
theorem or_add : ∀ r : Fin 16, ∀ x : Fin 13, bits .or .i64 ((r.val : Int) * 16) (x.val : Int) = 16 * (r.val : Int) + (x.val : Int) := by decide
theorem rtoken_any (r n : Int) (w : World) (h0 : 0 ≤ r) (h1 : r ≤ 15) : Calls Tryz.prog 58 #[.int .i64 r, .int .i64 n] w fun e w' => e = .returned (.agg (tokv (tokZ r n)).toArray) ∧ Ext w w' := by
 have HB := hid_ (fun W => rsizeBits_any n W)
 obtain ⟨b1, b2⟩ := bitsZ_bd n
 have HT := hid_ (show tokv (tokZ r n) = [.int .i64 (16 * r + (bitsZ n).1), .int .i64 (bitsZ n).1, .int .i64 (bitsZ n).2.1] from rfl)
 generalize tokZ r n = tk at *
 generalize bitsZ n = b at *
 obtain ⟨x1, x2, x3⟩ := b
 go_enter Tryz.func58, Tryz.ntmps58
 go_wp2_with (first
  | (refine wAlo' rfl (some 4) rfl 59 rfl _ zeroTok ?_; intro w1 g1 hb1 hx1 hg1)
  | (go_at_call 23; (with_reducible refine (HB.out _).mono ?_); rintro e w' ⟨rfl, rfl⟩)
  | (refine wStB rfl 59 (.tmp 4) (.tmp 20) rfl _ _ rfl rfl hb1 3 sizeTok rfl rfl (three_one _ _ _) ?_; intro w5 hb5 hg5))
 refine ret_cell rfl rfl _ rfl hb5 _ Tryz.underlying59 rfl 3 sizeTok rfl ⟨by rw [HT.out], hx1.grown hg5 hg1⟩
theorem token_any (r : Nat) (m : Int) (w : World) (h1 : r ≤ 15) : Calls Tryz.prog 131 #[.int .i64 r, .int .i64 m] w fun e w' => e = .returned (.agg (tokv (tokZ r m)).toArray) ∧ Ext w w' := by
 have HB := hid_ (fun W => sizeBits_any m W)
 obtain ⟨b1, b2⟩ := bitsZ_bd m
 have HT := hid_ (show tokv (tokZ r m) = [.int .i64 (16 * r + (bitsZ m).1), .int .i64 (bitsZ m).1, .int .i64 (bitsZ m).2.1] from rfl)
 generalize tokZ r m = tk at *
 generalize bitsZ m = b at *
 obtain ⟨x1, x2, x3⟩ := b
 obtain ⟨x1, rfl⟩ : ∃ k : Nat, x1 = k := ⟨x1.toNat, by simp at b1; omega⟩
 have HO : bits .or .i64 ((r : Int) * 16) (x1 : Int) = 16 * (r : Int) + (x1 : Int) := or_add ⟨r, by omega⟩ ⟨x1, by simp at b2; omega⟩
 go_enter Tryz.func131, Tryz.ntmps131
 go_wp2_with (first
  | (refine wAlo' rfl (some 4) rfl 59 rfl _ zeroTok ?_; intro w1 g1 hb1 hx1 hg1)
  | (go_at_call 76; (with_reducible refine (HB.out _).mono ?_); rintro e w' ⟨rfl, rfl⟩)
  | (refine wStB rfl 59 (.tmp 4) (.tmp 20) rfl _ _ rfl rfl hb1 3 sizeTok rfl rfl (three_one _ _ _) ?_; intro w5 hb5 hg5))
 refine ret_cell rfl rfl _ rfl hb5 _ Tryz.underlying59 rfl 3 sizeTok rfl ⟨by rw [HT.out], hx1.grown hg5 hg1⟩
theorem own_ext {w w' : World} {base : Nat} {e : TypeId} {size n : Nat} {v : Value} {xs : List Value} (h : w.ownsRow base e size v n xs) (hb : Ext w w') : w'.ownsRow base e size v n xs := by
 obtain ⟨hl, hh⟩ := h
 refine ⟨hl, ?_⟩
 rcases hh with ⟨rfl, rfl⟩ | ⟨g, cap, cur, rfl, h1, hg, h2⟩
 ·exact .inl ⟨rfl, rfl⟩
 ·exact .inr ⟨g, cap, cur, rfl, h1, (hb.block g (Blk.lt (w := w) (t := e) (cs := cur) hg)).trans hg, h2⟩
theorem one_sl3 (w : World) (T : TypeId) (a b c : Value) : SL (w.alloc (.cells #[a, b, c] T)) 3 (.slice (some ⟨w.heap.size, 0, none⟩) 1 1) 1 [a, b, c] := by
 have := (Blk.new w T #[a, b, c]).sl (size := 3) (n := 1) (c := 1) rfl (by omega) (by omega)
 simpa using this
theorem own_built3 {w : World} {base : Nat} (e : TypeId) (a b c : Value) (hb : base ≤ w.heap.size) :
 (w.alloc (.cells #[a, b, c] e)).ownsRow base e 3 (.slice (some ⟨w.heap.size, 0, none⟩) 1 1) 1 [a, b, c] :=
 ⟨rfl, .inr ⟨w.heap.size, 1, #[a, b, c], rfl, hb, heap_alloc_new w _, by omega, by unfold maxLen; omega, rfl, by simp⟩⟩
theorem tok_one (a b c : Int) : ∀ u ∈ [Value.int .i64 a, .int .i64 b, .int .i64 c], u.oneCell' = true := by
 intro u hu
 simp at hu
 rcases hu with rfl | rfl | rfl <;> rfl
theorem own_tok {w : World} {base : Nat} {e : TypeId} {v : Value} {T : List Tok} {a b c : Int} (h : w.ownsRow base e 3 v (T.length + 1) (toks T ++ [.int .i64 a, .int .i64 b, .int .i64 c])) : w.ownsRow base e 3 v (T ++ [(a, b, c)]).length (toks (T ++ [(a, b, c)])) := by
 simpa [toks, tokv] using h
theorem tokv_out (t : Tok) : (tokv t).toArray = #[.int .i64 t.1, .int .i64 t.2.1, .int .i64 t.2.2] := rfl
theorem size47 : (Tryz.prog.info? 29).map (·.size) = some 64 := by kernel_rfl
theorem zero47 : (Tryz.prog.info? 29).bind (·.zero) = some (.agg (bv (List.replicate 64 0))) := by kernel_rfl
theorem elt_int : Elt Tryz.prog 47 3 1 8 := ⟨Tryz.underlying47, by kernel_rfl, by omega⟩
theorem zord_set (k : Nat) (h : k < 64) (z : Int) : (zigL.take k ++ List.replicate (64 - k) 0).set k z = zigL.take k ++ [z] ++ List.replicate (64 - (k + 1)) 0 := by
 have hl : (zigL.take k).length = k := by rw [List.length_take, zigL_len]; omega
 rw [List.set_append_right _ _ (by omega), hl, Nat.sub_self]
 obtain ⟨m, hm⟩ : ∃ m, 64 - k = m + 1 := ⟨64 - k - 1, by omega⟩
 have hm2 : 64 - (k + 1) = m := by omega
 rw [hm, hm2, List.replicate_succ, List.set_cons_zero]
 simp
theorem tup {s : Int × Int × Bool} {a b : Int} {c : Bool} (h : s = (a, b, c)) : s.1 = a ∧ s.2.1 = b ∧ s.2.2 = c := by subst h; exact ⟨rfl, rfl, rfl⟩
set_option maxHeartbeats 800000 in
theorem order_any (w : World) : Calls Tryz.prog 148 #[] w fun e w' => e = .returned (.agg (bv zigL)) ∧ Ext w w' := by
 go_enter Tryz.func148, Tryz.ntmps148
 go_wp2_with (refine wpList_alloc_abs rfl 29 rfl _ zero47 ?_; intro w1 g hb1 hx1 hg)
 go_loopw [1, 2, 3, 5] (fun r c u i wr => ∃ k : Nat, k ≤ 64 ∧ i = .int .i64 k ∧ r = .int .i64 (zst k).1 ∧ c = .int .i64 (zst k).2.1 ∧ u = .bool (zst k).2.2 ∧ Blk wr g 29 (bv (zigL.take k ++ List.replicate (64 - k) 0)) ∧ Ext w wr) (fun _ _ _ i _ => 64 - (intOf i).toNat)
 case atStart => exact ⟨0, by omega, rfl, rfl, rfl, rfl, hb1, hx1⟩
 case round =>
  obtain ⟨k, hk, rfl, rfl, rfl, rfl, hb, hx⟩ := hrel
  by_cases hlt : k < 64
  ·obtain ⟨b1, b2, b3, b4⟩ := zst_bd k hlt
   have HS : Hid (zst (k + 1) = zstep (zst k)) := hid_ rfl
   have HZ : Hid (zigAt k = 8 * (zst k).1 + (zst k).2.1) := hid_ rfl
   obtain ⟨old, hold⟩ : ∃ u, wr.cell? ⟨g, k, none⟩ = some u := by
    rw [hb.cell k]
    exact ⟨_, bv_at _ k (by simp [zigL_len]; omega)⟩
   have hfr := hb.frozen k
   have hnew := hid_ (hb.set_ k (.int .i64 (8 * (zst k).1 + (zst k).2.1)))
   generalize hst : zst k = st at *
   obtain ⟨r, c, u⟩ := st
   have HST := hid_ hst
   clear hst
   simp only at b1 b2 b3 b4 HZ hnew
   have fin : ∀ (a b : Int) (d : Bool), zstep (r, c, u) = (a, b, d) → zst (k + 1) = (a, b, d) := fun a b d h => by rw [HS.out, h]
   have FIN := hid_ fin
   have hblk : Hid (Blk (wr.setCell ⟨g, k, none⟩ (.int .i64 (8 * r + c))) g 29 (bv (zigL.take (k + 1) ++ List.replicate (64 - (k + 1)) 0))) := by
    have := hnew.out
    rw [bv_set, zord_set k hlt] at this
    rw [zigL_take_succ k hlt, HZ.out]
    exact this
   have hxx := hid_ (hx.setCell (p := ⟨g, k, none⟩) hg (.int .i64 (8 * r + c)))
   clear fin hnew hb hx
   cases u with
   | true =>
     by_cases h7 : c = 7
     ·obtain ⟨f1, f2, f3⟩ := tup (FIN.out (r + 1) c false (by simp [zstep, h7]))
      have F := hid_ f1; have F2 := hid_ f2; have F3 := hid_ f3
      have h7' : (c == 7) = true := by simpa using h7
      clear f1 f2 f3 h7
      go_wp2_with fail
      go_roundw
      case rel => exact ⟨k + 1, by omega, by go_num, by rw [F.out], by rw [F2.out], by rw [F3.out], hblk.out, hxx.out⟩
      case measure => simp [intOf]; omega
     ·have h7' : (c == 7) = false := by simpa using h7
      by_cases h0 : r = 0
      ·obtain ⟨f1, f2, f3⟩ := tup (FIN.out r (c + 1) false (by simp [zstep, h7, h0]))
       have F := hid_ f1; have F2 := hid_ f2; have F3 := hid_ f3
       have h0' : (r == 0) = true := by simpa using h0
       clear f1 f2 f3 h7 h0
       go_wp2_with fail
       go_roundw
       case rel => exact ⟨k + 1, by omega, by go_num, by rw [F.out], by rw [F2.out], by rw [F3.out], hblk.out, hxx.out⟩
       case measure => simp [intOf]; omega
      ·obtain ⟨f1, f2, f3⟩ := tup (FIN.out (r - 1) (c + 1) true (by simp [zstep, h7, h0]))
       have F := hid_ f1; have F2 := hid_ f2; have F3 := hid_ f3
       have h0' : (r == 0) = false := by simpa using h0
       clear f1 f2 f3 h7 h0
       go_wp2_with fail
       go_roundw
       case rel => exact ⟨k + 1, by omega, by go_num, by rw [F.out], by rw [F2.out], by rw [F3.out], hblk.out, hxx.out⟩
       case measure => simp [intOf]; omega
   | false =>
     by_cases h7 : r = 7
     ·obtain ⟨f1, f2, f3⟩ := tup (FIN.out r (c + 1) true (by simp [zstep, h7]))
      have F := hid_ f1; have F2 := hid_ f2; have F3 := hid_ f3
      have h7' : (r == 7) = true := by simpa using h7
      clear f1 f2 f3 h7
      go_wp2_with fail
      go_roundw
      case rel => exact ⟨k + 1, by omega, by go_num, by rw [F.out], by rw [F2.out], by rw [F3.out], hblk.out, hxx.out⟩
      case measure => simp [intOf]; omega
     ·have h7' : (r == 7) = false := by simpa using h7
      by_cases h0 : c = 0
      ·obtain ⟨f1, f2, f3⟩ := tup (FIN.out (r + 1) c true (by simp [zstep, h7, h0]))
       have F := hid_ f1; have F2 := hid_ f2; have F3 := hid_ f3
       have h0' : (c == 0) = true := by simpa using h0
       clear f1 f2 f3 h7 h0
       go_wp2_with fail
       go_roundw
       case rel => exact ⟨k + 1, by omega, by go_num, by rw [F.out], by rw [F2.out], by rw [F3.out], hblk.out, hxx.out⟩
       case measure => simp [intOf]; omega
      ·obtain ⟨f1, f2, f3⟩ := tup (FIN.out (r + 1) (c - 1) false (by simp [zstep, h7, h0]))
       have F := hid_ f1; have F2 := hid_ f2; have F3 := hid_ f3
       have h0' : (c == 0) = false := by simpa using h0
       clear f1 f2 f3 h7 h0
       go_wp2_with fail
       go_roundw
       case rel => exact ⟨k + 1, by omega, by go_num, by rw [F.out], by rw [F2.out], by rw [F3.out], hblk.out, hxx.out⟩
       case measure => simp [intOf]; omega
  ·obtain rfl : k = 64 := by omega
   have hs : Hid ((bv zigL).size = 64) := hid_ (by rw [bv_size, zigL_len])
   have ho := hid_ (bv_one zigL)
   have e : zigL.take 64 ++ List.replicate (64 - 64) 0 = zigL := by rw [List.take_of_length_le (by rw [zigL_len]; omega)]; simp
   rw [e] at hb
   clear e
   generalize hcz : bv zigL = cz at *
   have HCZ := hid_ hcz
   clear hcz
   go_wp2_with (first
    | (refine wLdB rfl 29 (.tmp 0) rfl _ rfl hb _ Tryz.underlying29 rfl 64 size47 hs.out ?_)
    | (refine wStB rfl 29 (.tmp 0) (.tmp 51) rfl _ _ rfl rfl hb 64 size47 hs.out hs.out ho.out ?_; intro w7 hb7 hg7))
   exact ret_cell rfl rfl _ rfl hb7 _ Tryz.underlying29 rfl 64 size47 hs.out ⟨by rw [HCZ.out], hx.grown hg7 hg⟩
set_option maxHeartbeats 800000 in
theorem rzigOrder_own (w : World) : Calls Tryz.prog 92 #[] w fun e w' => ∃ v, e = .returned v ∧ w'.ownsRow w.heap.size 3 1 v 64 (ints zigL) ∧ Ext w w' := by
 go_enter Tryz.func92, Tryz.ntmps92
 go_wp2_with fail
 go_loopw [1, 6] (fun v i wr => ∃ s : Nat, s ≤ 15 ∧ i = .int .i64 s ∧ wr.ownsRow w.heap.size 3 1 v (zall s).length (ints (zall s)) ∧ Ext w wr) (fun _ i _ => 15 - (intOf i).toNat)
 case atStart => exact ⟨0, by omega, rfl, World.ownsRow_nil _ _ _ _, Ext.refl w⟩
 case round =>
  obtain ⟨s, hs, rfl, hown, hx⟩ := hrel
  by_cases hlt : s < 15
  ·have hsd : decide ((s : Int) < 15) = true := by simp; omega
   go_wp2_with fail
   obtain ⟨wo, rfl⟩ : ∃ wo : World, wo = wr := ⟨_, rfl⟩
   go_loopw [1, 9] (fun v i wr => ∃ k : Nat, k ≤ 8 ∧ i = .int .i64 k ∧ wr.ownsRow w.heap.size 3 1 v (zall s ++ zrow s k).length (ints (zall s ++ zrow s k)) ∧ Ext w wr) (fun _ i _ => 8 - (intOf i).toNat)
   case atStart => exact ⟨0, by omega, rfl, by simpa [zrow] using hown, hx⟩
   case round =>
    obtain ⟨k, hk, rfl, hown2, hx2⟩ := hrel
    by_cases hlk : k < 8
    ·have hzl := zlen s k hs hk
     have hlen : (ints (zall s ++ zrow s k)).length = (zall s ++ zrow s k).length := ints_len _
     have HZ := hid_ (zrow_succ s k)
     by_cases hp : s % 2 = 0
     ·have hp' : ((s : Int) % 2 == 0) = true := by simp; omega
      rw [if_pos hp] at HZ
      cases hq : inB ((s : Int) - (7 - (k : Int))) 0 7 with
      | true =>
        have hin := inB_iff.1 hq
        have HZ2 := hid_ (HZ.out.trans (by rw [if_pos hin]))
        clear HZ hin hp hlen
        go_wp2_with (first
         | (go_at_call 20; refine (outside_any _ _ _ _).mono ?_; rintro e w' ⟨rfl, rfl⟩)
         | (at_builtin; go_must (refine wpList_append_sl elt_int rfl _ _ rfl w.heap.size _ _ _ rfl (hown2.alloc _) _ 1 [.int .i64 _] rfl (one_sl _ _ _) (int_one _) (by omega) (by omega) (by have := hx2.size; simp; omega) ?_); intro v' w7 hown7 hb7))
        go_roundw
        case rel =>
         refine ⟨k + 1, by omega, by go_num, ?_, (hx2.alloc _).trans' hb7⟩
         rw [HZ2.out, ← List.append_assoc]
         exact own_snoc hown7
        case measure => simp [intOf]; omega
      | false =>
        have hin := inB_not.1 hq
        have HZ2 := hid_ (HZ.out.trans (by rw [if_neg (by omega)]))
        clear HZ hin hp hlen
        go_wp2_with (go_at_call 20; refine (outside_any _ _ _ _).mono ?_; rintro e w' ⟨rfl, rfl⟩)
        go_roundw
        case rel => exact ⟨k + 1, by omega, by go_num, by rw [HZ2.out, List.append_nil]; exact hown2, hx2⟩
        case measure => simp [intOf]; omega
     ·have hp' : ((s : Int) % 2 == 0) = false := by simp; omega
      rw [if_neg hp] at HZ
      cases hq : inB ((s : Int) - (k : Int)) 0 7 with
      | true =>
        have hin := inB_iff.1 hq
        have HZ2 := hid_ (HZ.out.trans (by rw [if_pos hin]))
        clear HZ hin hp hlen
        go_wp2_with (first
         | (go_at_call 20; refine (outside_any _ _ _ _).mono ?_; rintro e w' ⟨rfl, rfl⟩)
         | (at_builtin; go_must (refine wpList_append_sl elt_int rfl _ _ rfl w.heap.size _ _ _ rfl (hown2.alloc _) _ 1 [.int .i64 _] rfl (one_sl _ _ _) (int_one _) (by omega) (by omega) (by have := hx2.size; simp; omega) ?_); intro v' w7 hown7 hb7))
        go_roundw
        case rel =>
         refine ⟨k + 1, by omega, by go_num, ?_, (hx2.alloc _).trans' hb7⟩
         rw [HZ2.out, ← List.append_assoc]
         exact own_snoc hown7
        case measure => simp [intOf]; omega
      | false =>
        have hin := inB_not.1 hq
        have HZ2 := hid_ (HZ.out.trans (by rw [if_neg (by omega)]))
        clear HZ hin hp hlen
        go_wp2_with (go_at_call 20; refine (outside_any _ _ _ _).mono ?_; rintro e w' ⟨rfl, rfl⟩)
        go_roundw
        case rel => exact ⟨k + 1, by omega, by go_num, by rw [HZ2.out, List.append_nil]; exact hown2, hx2⟩
        case measure => simp [intOf]; omega
    ·obtain rfl : k = 8 := by omega
     have HS := hid_ (zall_succ s)
     go_wp2_with fail
     go_roundw
     case rel => exact ⟨s + 1, by omega, by go_num, by rw [HS.out]; exact hown2, hx2⟩
     case measure => simp [intOf]; omega
  ·obtain rfl : s = 15 := by omega
   rw [zall_15] at hown
   rw [zigL_len] at hown
   have HSL := hid_ hown
   clear hown
   go_wp2_with fail
   go_ret
   exact ⟨_, rfl, HSL.out, hx⟩
theorem rzigOrder_sl (w : World) : Calls Tryz.prog 92 #[] w fun e w' => ∃ A c, e = .returned (.slice A 64 c) ∧ SL w' 1 (.slice A 64 c) 64 (ints zigL) ∧ (∀ ad, A = some ad → w.heap.size ≤ ad.block) ∧ Ext w w' :=
 (rzigOrder_own w).mono fun e w' ⟨v, he, hs, hx⟩ => by
   obtain ⟨A, c, rfl, h1, h2⟩ := own_form hs
   exact ⟨A, c, he, h1, h2, hx⟩
theorem run_index47 (cs : Array Value) (i : Nat) (u : Value) (hi : i < 64) (hu : cs[i]? = some u) (w : World) : (Instr.index 29 (.agg cs) (.int .i64 (i : Int))).run Tryz.prog w = .ok u w :=
 run_index_agg _ _ 64 cs i u Tryz.underlying29 _ Tryz.underlying3 sizeInt hi hu w
theorem zigN (k : Nat) (h : k < 64) : ∃ n : Nat, zigAt k = (n : Int) ∧ n < 64 := by
 have := zigAt_bd k h
 exact ⟨(zigAt k).toNat, by omega, by omega⟩
set_option maxHeartbeats 400000 in
theorem zto_any (zs : List Int) (w : World) (hz : zs.length = 64) : Calls Tryz.prog 130 #[.agg (bv zs)] w fun e w' => e = .returned (.agg (bv (zto zs))) ∧ Ext w w' := by
 have HO := hid_ (fun W => order_any W)
 have HIX := hid_ (fun W (k n : Nat) (hk : k < 64) (hn : zigAt k = (n : Int)) => run_index47 (bv zigL) k (.int .i64 (n : Int)) hk (by rw [← hn, bv_at zigL k (by rw [zigL_len]; exact hk), zigL_get]) W)
 have HZ := hid_ hz
 generalize bv zigL = co at *
 generalize hc0 : bv zs = cz at *
 have HC0 := hid_ hc0
 clear hz hc0
 go_enter Tryz.func130, Tryz.ntmps130
 go_wp2_with (first
  | (refine wBox rfl 30 (.tmp 0) rfl cz rfl ?_; intro w1 gz hbz1 hx1 hgz)
  | (refine wAlo' rfl (some 2) rfl 30 rfl _ zero48 ?_; intro w2 go hbo2 hx2 hgo; have hbz2 := hbz1.ext hx2)
  | (go_at_call 148; refine (HO.out _).mono ?_; rintro e w3 ⟨rfl, hx3⟩; have hbz := hbz2.ext hx3; have hbo := hbo2.ext hx3))
 have hne : go ≠ gz := by have := hbz1.lt; omega
 have hgo' : w.heap.size ≤ go := by have := hx1.size; omega
 have hxx := (hx1.trans hx2).trans hx3
 clear hbz1 hbz2 hbo2 hx1 hx2 hx3
 go_loopw [6] (fun i wr => ∃ k : Nat, k ≤ 64 ∧ i = .int .i64 k ∧ Blk wr gz 30 cz ∧ Blk wr go 30 (bv ((zto zs).take k ++ List.replicate (64 - k) 0)) ∧ Ext w wr) (fun i _ => 64 - (intOf i).toNat)
 case atStart => exact ⟨0, by omega, rfl, hbz, by rw [show (zto zs).take 0 ++ List.replicate (64 - 0) 0 = zeros64 from rfl]; exact hbo, hxx⟩
 case round =>
  obtain ⟨k, hk, rfl, hb1, hb2, hx⟩ := hrel
  by_cases hlt : k < 64
  ·obtain ⟨n, hn, hn64⟩ := zigN k hlt
   have HN := hid_ hn
   have hzl : n < zs.length := by have := HZ.out; omega
   have HD : Hid (zs.getD n 0 = zs[n]) := hid_ (by simp [hzl])
   have hlz : wr.cell? ⟨gz, n, none⟩ = some (.int .i64 zs[n]) := (hb1.cell n).trans (by rw [← HC0.out]; exact bv_at zs n hzl)
   obtain ⟨old, hold⟩ : ∃ u, wr.cell? ⟨go, k, none⟩ = some u := by
    rw [hb2.cell k]
    have hl : ((zto zs).take k ++ List.replicate (64 - k) 0).length = 64 := by simp [zto_len]; omega
    exact ⟨_, bv_at _ k (by omega)⟩
   have hfr := hb2.frozen k
   have hix := fun W => HIX.out W k n hlt HN.out
   clear hn
   go_wp2_with fail
   go_roundw
   case rel =>
    refine ⟨k + 1, by omega, by go_num, hb1.far (p := ⟨go, k, none⟩) (by simpa using hne.symm) _, ?_, hx.setCell hgo' _⟩
    have := hb2.set_ k (.int .i64 zs[n])
    rw [bv_set] at this
    have e := zto_set zs k hlt
    rw [HN.out, Int.toNat_natCast, HD.out] at e
    rw [← e]
    exact this
   case measure => simp [intOf]; omega
  ·obtain rfl : k = 64 := by omega
   have e : (zto zs).take 64 ++ List.replicate (64 - 64) 0 = zto zs := by rw [List.take_of_length_le (by rw [zto_len]; omega)]; simp
   rw [e] at hb2
   clear e
   have hs : Hid ((bv (zto zs)).size = 64) := hid_ (by rw [bv_size, zto_len])
   have ho := hid_ (bv_one (zto zs))
   generalize hcr : bv (zto zs) = cr at *
   have HC := hid_ hcr
   clear hcr
   go_wp2_with (first
    | (refine wLdB rfl 30 (.tmp 2) rfl _ rfl hb2 _ Tryz.underlying30 rfl 64 size48 hs.out ?_)
    | (refine wStB rfl 30 (.tmp 2) (.tmp 16) rfl _ _ rfl rfl hb2 64 size48 hs.out hs.out ho.out ?_; intro w7 hb7 hg7))
   exact ret_cell rfl rfl _ rfl hb7 _ Tryz.underlying30 rfl 64 size48 hs.out ⟨by rw [HC.out], hx.grown hg7 hgo'⟩
set_option maxHeartbeats 400000 in
theorem rzto_any (zs : List Int) (w : World) (hz : zs.length = 64) : Calls Tryz.prog 57 #[.agg (bv zs)] w fun e w' => e = .returned (.agg (bv (zto zs))) ∧ Ext w w' := by
 have HZ := hid_ hz
 generalize hc0 : bv zs = cz at *
 have HC0 := hid_ hc0
 clear hz hc0
 go_enter Tryz.func57, Tryz.ntmps57
 go_wp2_with (first
  | (refine wBox rfl 30 (.tmp 0) rfl cz rfl ?_; intro w1 gz hbz1 hx1 hgz)
  | (refine wAlo' rfl (some 2) rfl 30 rfl _ zero48 ?_; intro w2 gr hbr2 hx2 hgr; have hbz2 := hbz1.ext hx2)
  | (refine wAlo' rfl (some 3) rfl 30 rfl _ zero48 ?_; intro w3 go hbo3 hx3 hgo; have hbz3 := hbz2.ext hx3; have hbr3 := hbr2.ext hx3)
  | (go_at_call 92; refine (rzigOrder_sl _).mono ?_; rintro e w4 ⟨A, c, rfl, hsl, hfs, hx4⟩; have hbz := hbz3.ext hx4; have hbo := hbo3.ext hx4; have hbr := hbr3.ext hx4))
 have hne : go ≠ gz := by have := hbz2.lt; omega
 have hne2 : go ≠ gr := by have := hbr2.lt; omega
 have hgo' : w.heap.size ≤ go := by have := hx1.size; have := hx2.size; omega
 have hgr' : w.heap.size ≤ gr := by have := hx1.size; omega
 have hxx := ((hx1.trans hx2).trans hx3).trans hx4
 have hnsl := hid_ (fun ad h => (show (ad : Addr).block ≠ go by have := hfs ad h; have := hbo3.lt; omega))
 clear hbz1 hbz2 hbz3 hbo3 hbr2 hbr3 hx1 hx2 hx3 hx4 hfs
 go_loopw [8] (fun i wr => ∃ k : Nat, k ≤ 64 ∧ i = .int .i64 k ∧ Blk wr gz 30 cz ∧ Blk wr go 30 (bv ((zto zs).take k ++ List.replicate (64 - k) 0)) ∧ Blk wr gr 30 (bv zeros64) ∧ SL wr 1 (.slice A 64 c) 64 (ints zigL) ∧ Ext w wr) (fun i _ => 64 - (intOf i).toNat)
 case atStart => exact ⟨0, by omega, rfl, hbz, by rw [show (zto zs).take 0 ++ List.replicate (64 - 0) 0 = zeros64 from rfl]; exact hbo, hbr, hsl, hxx⟩
 case round =>
  obtain ⟨k, hk, rfl, hb1, hb2, hbr, hsl, hx⟩ := hrel
  by_cases hlt : k < 64
  ·obtain ⟨n, hn, hn64⟩ := zigN k hlt
   have HN := hid_ hn
   have hzl : n < zs.length := by have := HZ.out; omega
   have HD : Hid (zs.getD n 0 = zs[n]) := hid_ (by simp [hzl])
   have hlz : wr.cell? ⟨gz, n, none⟩ = some (.int .i64 zs[n]) := (hb1.cell n).trans (by rw [← HC0.out]; exact bv_at zs n hzl)
   obtain ⟨old, hold⟩ : ∃ u, wr.cell? ⟨go, k, none⟩ = some u := by
    rw [hb2.cell k]
    have hl : ((zto zs).take k ++ List.replicate (64 - k) 0).length = 64 := by simp [zto_len]; omega
    exact ⟨_, bv_at _ k (by omega)⟩
   have hfr := hb2.frozen k
   obtain ⟨ad, u, rfl, -, hxo, hco⟩ := hsl.at1 hlt
   obtain ⟨hko, rfl⟩ := ints_at _ _ _ hxo
   have e0 : zigL[k] = (n : Int) := by rw [zigL_get, HN.out]
   rw [e0] at hco
   clear e0 hxo
   clear hn
   go_wp2_with fail
   go_roundw
   case rel =>
    refine ⟨k + 1, by omega, by go_num, hb1.far (p := ⟨go, k, none⟩) (by simpa using hne.symm) _, ?_, hbr.far (p := ⟨go, k, none⟩) (by simpa using hne2.symm) _, hsl.far (by intro ad' h; exact hnsl.out ad' h) _, hx.setCell hgo' _⟩
    have := hb2.set_ k (.int .i64 zs[n])
    rw [bv_set] at this
    have e := zto_set zs k hlt
    rw [HN.out, Int.toNat_natCast, HD.out] at e
    rw [← e]
    exact this
   case measure => simp [intOf]; omega
  ·obtain rfl : k = 64 := by omega
   have e : (zto zs).take 64 ++ List.replicate (64 - 64) 0 = zto zs := by rw [List.take_of_length_le (by rw [zto_len]; omega)]; simp
   rw [e] at hb2
   clear e
   have hs : Hid ((bv (zto zs)).size = 64) := hid_ (by rw [bv_size, zto_len])
   have ho := hid_ (bv_one (zto zs))
   generalize hcr : bv (zto zs) = cr at *
   have HC := hid_ hcr
   clear hcr
   go_wp2_with (first
    | (refine wLdB rfl 30 (.tmp 3) rfl _ rfl hb2 _ Tryz.underlying30 rfl 64 size48 hs.out ?_)
    | (refine wStB rfl 30 (.tmp 2) (.tmp 19) rfl _ _ rfl rfl hbr 64 size48 hs.out (by rw [bv_size]; rfl) ho.out ?_; intro w7 hb7 hg7))
   exact ret_cell rfl rfl _ rfl hb7 _ Tryz.underlying30 rfl 64 size48 hs.out ⟨by rw [HC.out], hx.grown hg7 hgr'⟩
end Go.Proofs.YtlhggcbpipmjhaaGreatDoor
