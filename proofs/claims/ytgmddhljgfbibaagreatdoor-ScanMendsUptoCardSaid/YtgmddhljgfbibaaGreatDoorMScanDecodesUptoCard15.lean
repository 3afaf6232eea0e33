/- Contracts for the law ScanDecodesUptoCard, part 15: what the functions that it reaches answer, for all arguments that the theorems name. -/
import Derived.Test.YtgmddhljgfbibaaGreatDoorMScanDecodesUptoCard14
import Derived.Test.YtgmddhljgfbibaaGreatDoorMScanDecodesUptoCard13
import Derived.Test.YtgmddhljgfbibaaGreatDoorMScanDecodesUptoCard2
/- BlockOf of the reference, over any source. Printed by wip/pp.py from wip/gen/blockof.txt. -/
namespace Go.Proofs.YtgmddhljgfbibaaGreatDoor
set_option linter.unusedVariables false
set_option linter.unusedSimpArgs false
open Go.RowKit
attribute [local irreducible] zfrom zto tokensZ accT bv backR tokOk
section
variable {σ : Type} {f : FuncId} {cap : Array Value} {B : Nat} {S : Nat → Prop} {Inv : World → σ → Prop} {next : Bool → σ → Tok × Int × σ}
/-- what BlockOf hands back -/
def BlkIs (S : Nat → Prop) (Inv : World → σ → Prop) (w : World) (g : Int × List Int × List Tok × σ) (e : Ending) (w' : World) : Prop :=
  e = .returned (.tuple #[.agg (bv g.2.1), .int .i64 (g.2.2.1.length : Int), .int .i64 g.1]) ∧ Inv w' g.2.2.2 ∧ Upd S w w'
section
variable {w w' : World} {G : Int × List Int × List Tok × σ} {x : Int} {z zx : List Int} {L : List Tok} {q : σ} {n : Nat} {cz : Array Value} {Z0 : List Int}
theorem blkIs_err (hG : G = (x, Z0, [], q)) (hcz : bv Z0 = cz) (hi : Inv w' q) (hu : Upd S w w') : BlkIs S Inv w G (.returned (.tuple #[.agg cz, .int .i64 0, .int .i64 x])) w' := by
  subst hG hcz
  unfold BlkIs
  dsimp only
  exact ⟨rfl, hi, hu⟩
theorem blkIs_good (hG : G = (0, zx, L, q)) (hn : L.length = n) (hi : Inv w' q) (hu : Upd S w w') : BlkIs S Inv w G (.returned (.tuple #[.agg (bv zx), .int .i64 (n : Int), .int .i64 0])) w' := by
  subst hG hn
  unfold BlkIs
  dsimp only
  exact ⟨rfl, hi, hu⟩
end
set_option maxRecDepth 100000 in
set_option maxHeartbeats 40000000 in
theorem blockOf_any (before : Int) (hbf1 : -2047 ≤ before) (hbf2 : before ≤ 2047) (hgo : Goes Tryz.prog f) (C : Src f #[] cap B S Inv next) (w : World) (s : σ) (hI : Inv w s) (hB : B = w.heap.size) :
    Calls Tryz.prog 34 #[.int .i64 before, .func (.func f) #[] cap] w (BlkIs S Inv w (blkZ next before s)) := by
  have HA2 := hid_ (fun b q W (a : Inv W q) (c : B ≤ W.heap.size) => C.ask b q W a c)
  simp only [Array.empty_append, tokv_out] at HA2
  have HAL := hid_ (show (Tryz.prog.info? 37).bind (·.zero) = some (.agg (bv (List.replicate 64 0))) from zero48)
  have HBT := hid_ (show Tryz.prog.built 37 [] = some (bv (List.replicate 64 0)) by kernel_rfl)
  have HO := hid_ (bv_one (List.replicate 64 0))
  have HS := hid_ (show (bv (List.replicate 64 0)).size = 64 by rw [bv_size]; rfl)
  have hz0 := hid_ (show (Value.agg (bv (List.replicate 64 0))).cells.size = 64 by rw [show (Value.agg (bv (List.replicate 64 0))).cells = bv (List.replicate 64 0) from rfl, bv_size]; rfl)
  have HHALF : Half (List.replicate 64 0) 0 := ⟨by simp, fun x hx => by simp at hx; omega, fun j _ h => by rw [List.getElem?_replicate, if_pos h]⟩
  obtain ⟨G, hG⟩ : ∃ G, blkZ next before s = G := ⟨_, rfl⟩
  have HG := hid_ hG
  rw [hG]
  clear hG
  generalize hcz : bv (List.replicate 64 0) = cz at *
  have HCZ := hid_ hcz
  have HBs := hid_ hB
  clear hcz hB
  go_enter Tryz.func34, Tryz.ntmps34
  go_wp2_with (first
    | (show wpList _ _ _ (⟨some 4, _, _, _, _, _⟩ :: _) _ _; refine wpList_alloc_abs' rfl (some 4) rfl 37 rfl _ HAL.out ?_; intro w1 gr hb1 hx1 hg1)
    | (show wpList _ _ _ (⟨some 8, _, _, _, _, _⟩ :: _) _ _; refine wpList_alloc_abs' rfl (some 8) rfl 37 rfl _ HAL.out ?_; intro w2 gb hb2 hx2 hg2))
  have hF : From B S Inv w w2 gb gr 37 (List.replicate 64 0) none 0 [] s := by
    have hBB := HBs.out
    have s1 := hx1.size
    have s2 := hx2.size
    have l1 := hb1.lt
    have hr2 := hb1.ext hx2
    have hb2' : Blk w2 gb 37 (bv (List.replicate 64 0)) := by rw [HCZ.out]; exact hb2
    have hr2' : Blk w2 gr 37 (bv (List.replicate 64 0)) := by rw [HCZ.out]; exact hr2
    exact ⟨hb2', hr2', by omega, by omega, by omega, own_nil _ _ _ _, C.keep _ _ _ hI (upd_of_ext (hx1.trans hx2)), upd_of_ext (hx1.trans hx2), by omega⟩
  clear hb1 hx1 hg1 hb2 hx2 hg2
  go_loopw [7, 9] (fun vl i wr => ∃ (k : Nat) (z : List Int) (L : List Tok) (q : σ) (A : Option Addr) (c : Nat), k ≤ 64 ∧ i = .int .i64 (k : Int) ∧ vl = .slice A L.length c ∧ L.length ≤ k ∧ Half z k ∧ Hid ((k = 0 ∧ q = s ∧ L = [] ∧ z = List.replicate 64 0) ∨ (1 ≤ k ∧ G = finZ before (goB (next false) k z L q))) ∧ From B S Inv w wr gb gr 37 z A c L q) (fun _ i _ => 64 - (intOf i).toNat)
  case atStart => exact ⟨0, List.replicate 64 0, [], s, none, 0, by omega, rfl, rfl, by simp, HHALF, hid_ (.inl ⟨rfl, rfl, rfl, rfl⟩), hF⟩
  case round =>
    clear hF HHALF
    obtain ⟨k, z, L, q, A, c, hk, rfl, rfl, hL, hz, HST, hF⟩ := hrel
    obtain ⟨n, hn⟩ : ∃ n, L.length = n := ⟨_, rfl⟩
    have HLN := hid_ hn
    rw [hn] at hL ⊢
    clear hn
    have HZL := hid_ hz.len
    by_cases hlt : k < 64
    · by_cases hk0 : k = 0
      · have hk0' : ((k : Int) == 0) = true := by simp [hk0]
        have HSTa : Hid (q = s ∧ L = [] ∧ z = List.replicate 64 0) := hid_ (by
          rcases HST.out with ⟨-, h2⟩ | ⟨h1, -⟩
          · exact h2
          · omega)
        have hk00 : k ≤ 0 := by omega
        clear hk0
        rcases hq : next true q with ⟨⟨t1, t2, t3⟩, x, q'⟩
        have HQ : Hid (next true s = ((t1, t2, t3), x, q')) := hid_ (by rw [← HSTa.out.1]; exact hq)
        have HAq : Hid (∀ W, Inv W q → B ≤ W.heap.size → Calls Tryz.prog f (#[.bool true] ++ cap) W fun e w' => e = .returned (.tuple #[.agg #[.int .i64 t1, .int .i64 t2, .int .i64 t3], .int .i64 x]) ∧ Inv w' q' ∧ Upd S W w') := hid_ (fun W a b => by have := HA2.out true q W a b; rw [hq] at this; exact this)
        clear hq HST HA2
        by_cases hx0 : x = 0
        · subst hx0
          have HBKq : Hid (∀ W, Calls Tryz.prog 61 #[.int .i64 t2, .int .i64 t3] W fun e w' => e = .returned (.tuple #[.int .i64 (backR t2 t3).1, .int .i64 (backR t2 t3).2]) ∧ Ext W w') := hid_ (fun W => rback_any t2 t3 W)
          obtain ⟨bd1, bd2, -⟩ := backR_bd t2 t3
          have HT : Hid (tokOk (t1, t2, t3) = decide ((backR t2 t3).2 = 0 ∧ t2 = t1 % 16 ∧ t2 ≤ 11 ∧ 0 ≤ t1 ∧ t1 ≤ 255 ∧ (t2 = 0 → t1 = 0 ∨ t1 = 240))) := hid_ (tokOk_def _)
          have HT1 : Hid (tokOk1 before (t1, t2, t3) = decide ((backR t2 t3).2 = 0 ∧ t1 = t2 ∧ -2047 ≤ before + (backR t2 t3).1 ∧ before + (backR t2 t3).1 ≤ 2047)) := hid_ (tokOk1_def before _)
          obtain ⟨bk, hbk⟩ : ∃ bk, backR t2 t3 = bk := ⟨_, rfl⟩
          have HBK0 := hid_ hbk
          rw [hbk] at HBKq bd1 bd2 HT HT1
          clear hbk
          obtain ⟨b1, b2⟩ := bk
          simp only at HBKq bd1 bd2 HT HT1
          cases hok : tokOk1 before (t1, t2, t3) with
          | false =>
            have HGE : Hid (G = (4, List.replicate 64 0, [], q')) := hid_ (by rw [← HG.out, blkZ_bad HQ.out hok])
            by_cases k1 : b2 = 0
            · subst k1
              have hcase : (t1 != t2) = true ∨ ((t1 != t2) = false ∧ inB (before + b1) (-2047) 2047 = false) := by
                by_cases k2 : t1 = t2
                · refine .inr ⟨by simpa using k2, ?_⟩
                  rw [inB_not]
                  have h3 := HT1.out
                  rw [hok] at h3
                  have h4 := of_decide_eq_false h3.symm
                  omega
                · exact .inl (by simpa using k2)
              have HOB := hid_ (fun W => outside_any (before + b1) (-2047) 2047 W)
              clear hok HT1 HT HG HQ HSTa
              rcases hcase with d1 | ⟨d1, d2⟩
              · skip
                go_wp2_with (first
                  | (show wpList _ _ _ (⟨some 22, _, _, _, _, _⟩ :: _) _ _; refine wl_enter (by rfl) (run_callv (.tmp 19) _ _ rfl rfl hgo (#[.bool true] ++ cap) (by simp [Act.eval])) ?_; (with_reducible refine (HAq.out _ hF.inv hF.size).mono ?_); rintro e w2 ⟨rfl, hi2, hu2⟩; refine ⟨_, rfl, ?_⟩; have hF2 := hF.asked C hu2 hi2)
                  | (show wpList _ _ _ (⟨some 10, _, _, _, _, _⟩ :: _) _ _; refine wpList_alloc_abs' rfl (some 10) rfl 80 rfl _ zeroTok ?_; intro w3 g14 hb3 hx3 hg3)
                  | (show wpList _ _ _ (⟨none, .store _ (.tmp 10) (.tmp 23), _, _, _, _⟩ :: _) _ _; refine wpList_store_blk rfl 80 (.tmp 10) (.tmp 23) rfl _ _ rfl rfl hb3 3 sizeTok rfl rfl (three_one _ _ _) ?_; intro w4 hb4 hg4; have hF4 := hF2.made C hx3 hg3 hg4)
                  | (show wpList _ _ _ (⟨some 30, _, _, _, _, _⟩ :: _) _ _; refine wpList_load_blk rfl 80 (.tmp 10) rfl g14 rfl hb4 _ Tryz.underlying80 rfl 3 sizeTok rfl ?_)
                  | (show wpList _ _ _ (⟨some 31, _, _, _, _, _⟩ :: _) _ _; refine wpList_lit1 rfl 67 80 (.tmp 30) rfl (some 31) rfl Tryz.underlying67 3 sizeTok tok_isS _ rfl rfl (by omega) (by omega) ?_; intro w5 g5 hb5 hx5 hg5; have hs5 : SL w5 3 (.slice (some ⟨g5, 0, none⟩) 1 1) 1 [.int .i64 t1, .int .i64 t2, .int .i64 t3] := Blk.sl (cs := #[.int .i64 t1, .int .i64 t2, .int .i64 t3]) hb5 rfl (by omega) (by omega); have hF5 := hF4.ext C hx5; have hrow5 := hF5.row; rw [HLN.out] at hrow5)
                  | (at_builtin; go_must (refine wpList_append_slf elt_tok rfl (.tmp 29) (.tmp 31) rfl B _ n (toks L) rfl hrow5 _ 1 [.int .i64 t1, .int .i64 t2, .int .i64 t3] rfl hs5 (tok_one _ _ _) (by omega) (by omega) hF5.size ?_); intro A' c' w6 hown6 hgr6 hor6; have hb6 := (upd_grown hgr6).blk (hb4.ext hx5) (fun k => (hF2.fresh (g := g14) hg3).2.2.2 _ (by rw [HLN.out]; exact k) rfl); obtain ⟨p0, p1, p2⟩ := blk_three hb6; have hF6 : From B S Inv w w6 gb gr 37 z A' c' (L ++ [(t1, t2, t3)]) q' := hF5.app C blkT_ne (by rw [HLN.out]; exact hown6) (by rw [HLN.out]; exact hgr6))
                  | (go_at_call 61; (with_reducible refine (HBKq.out _).mono ?_); rintro e w7 ⟨rfl, hx7⟩; obtain ⟨q0, q1, q2⟩ := blk_three (hb6.ext hx7); have hF7 := hF6.ext C hx7; have hr7 := hF7.r; rw [HCZ.out] at hr7)
                  | (go_at_call 29; (with_reducible refine (HOB.out _).mono ?_); rintro e w' ⟨rfl, rfl⟩)
                  | (show wpList _ _ _ (⟨some 57, _, _, _, _, _⟩ :: _) _ _; refine wpList_build0 rfl 37 rfl _ HBT.out ?_)
                  | (show wpList _ _ _ (⟨none, .store _ (.tmp 4) (.tmp 57), _, _, _, _⟩ :: _) _ _; refine wpList_store_blk rfl 37 (.tmp 4) (.tmp 57) rfl _ _ rfl rfl hr7 64 size48 HS.out HS.out HO.out ?_; intro w9 hb9 hg9))
                obtain ⟨hi9, hu9, -⟩ := hF7.fin C blkT_ne hg9 HBs.out
                refine ret_cell_tmp2 rfl rfl _ rfl hb9 _ Tryz.underlying37 rfl 64 size48 HS.out ?_
                exact blkIs_err HGE.out HCZ.out hi9 hu9
              · rw [d2] at HOB
                go_wp2_with (first
                  | (show wpList _ _ _ (⟨some 22, _, _, _, _, _⟩ :: _) _ _; refine wl_enter (by rfl) (run_callv (.tmp 19) _ _ rfl rfl hgo (#[.bool true] ++ cap) (by simp [Act.eval])) ?_; (with_reducible refine (HAq.out _ hF.inv hF.size).mono ?_); rintro e w2 ⟨rfl, hi2, hu2⟩; refine ⟨_, rfl, ?_⟩; have hF2 := hF.asked C hu2 hi2)
                  | (show wpList _ _ _ (⟨some 10, _, _, _, _, _⟩ :: _) _ _; refine wpList_alloc_abs' rfl (some 10) rfl 80 rfl _ zeroTok ?_; intro w3 g14 hb3 hx3 hg3)
                  | (show wpList _ _ _ (⟨none, .store _ (.tmp 10) (.tmp 23), _, _, _, _⟩ :: _) _ _; refine wpList_store_blk rfl 80 (.tmp 10) (.tmp 23) rfl _ _ rfl rfl hb3 3 sizeTok rfl rfl (three_one _ _ _) ?_; intro w4 hb4 hg4; have hF4 := hF2.made C hx3 hg3 hg4)
                  | (show wpList _ _ _ (⟨some 30, _, _, _, _, _⟩ :: _) _ _; refine wpList_load_blk rfl 80 (.tmp 10) rfl g14 rfl hb4 _ Tryz.underlying80 rfl 3 sizeTok rfl ?_)
                  | (show wpList _ _ _ (⟨some 31, _, _, _, _, _⟩ :: _) _ _; refine wpList_lit1 rfl 67 80 (.tmp 30) rfl (some 31) rfl Tryz.underlying67 3 sizeTok tok_isS _ rfl rfl (by omega) (by omega) ?_; intro w5 g5 hb5 hx5 hg5; have hs5 : SL w5 3 (.slice (some ⟨g5, 0, none⟩) 1 1) 1 [.int .i64 t1, .int .i64 t2, .int .i64 t3] := Blk.sl (cs := #[.int .i64 t1, .int .i64 t2, .int .i64 t3]) hb5 rfl (by omega) (by omega); have hF5 := hF4.ext C hx5; have hrow5 := hF5.row; rw [HLN.out] at hrow5)
                  | (at_builtin; go_must (refine wpList_append_slf elt_tok rfl (.tmp 29) (.tmp 31) rfl B _ n (toks L) rfl hrow5 _ 1 [.int .i64 t1, .int .i64 t2, .int .i64 t3] rfl hs5 (tok_one _ _ _) (by omega) (by omega) hF5.size ?_); intro A' c' w6 hown6 hgr6 hor6; have hb6 := (upd_grown hgr6).blk (hb4.ext hx5) (fun k => (hF2.fresh (g := g14) hg3).2.2.2 _ (by rw [HLN.out]; exact k) rfl); obtain ⟨p0, p1, p2⟩ := blk_three hb6; have hF6 : From B S Inv w w6 gb gr 37 z A' c' (L ++ [(t1, t2, t3)]) q' := hF5.app C blkT_ne (by rw [HLN.out]; exact hown6) (by rw [HLN.out]; exact hgr6))
                  | (go_at_call 61; (with_reducible refine (HBKq.out _).mono ?_); rintro e w7 ⟨rfl, hx7⟩; obtain ⟨q0, q1, q2⟩ := blk_three (hb6.ext hx7); have hF7 := hF6.ext C hx7; have hr7 := hF7.r; rw [HCZ.out] at hr7)
                  | (go_at_call 29; (with_reducible refine (HOB.out _).mono ?_); rintro e w' ⟨rfl, rfl⟩)
                  | (show wpList _ _ _ (⟨some 57, _, _, _, _, _⟩ :: _) _ _; refine wpList_build0 rfl 37 rfl _ HBT.out ?_)
                  | (show wpList _ _ _ (⟨none, .store _ (.tmp 4) (.tmp 57), _, _, _, _⟩ :: _) _ _; refine wpList_store_blk rfl 37 (.tmp 4) (.tmp 57) rfl _ _ rfl rfl hr7 64 size48 HS.out HS.out HO.out ?_; intro w9 hb9 hg9))
                obtain ⟨hi9, hu9, -⟩ := hF7.fin C blkT_ne hg9 HBs.out
                refine ret_cell_tmp2 rfl rfl _ rfl hb9 _ Tryz.underlying37 rfl 64 size48 HS.out ?_
                exact blkIs_err HGE.out HCZ.out hi9 hu9
            · have k1' : (b2 != 0) = true := by simpa using k1
              have HOB : True := trivial
              clear k1 hok HT1 HT HG HQ HSTa
              go_wp2_with (first
                | (show wpList _ _ _ (⟨some 22, _, _, _, _, _⟩ :: _) _ _; refine wl_enter (by rfl) (run_callv (.tmp 19) _ _ rfl rfl hgo (#[.bool true] ++ cap) (by simp [Act.eval])) ?_; (with_reducible refine (HAq.out _ hF.inv hF.size).mono ?_); rintro e w2 ⟨rfl, hi2, hu2⟩; refine ⟨_, rfl, ?_⟩; have hF2 := hF.asked C hu2 hi2)
                | (show wpList _ _ _ (⟨some 10, _, _, _, _, _⟩ :: _) _ _; refine wpList_alloc_abs' rfl (some 10) rfl 80 rfl _ zeroTok ?_; intro w3 g14 hb3 hx3 hg3)
                | (show wpList _ _ _ (⟨none, .store _ (.tmp 10) (.tmp 23), _, _, _, _⟩ :: _) _ _; refine wpList_store_blk rfl 80 (.tmp 10) (.tmp 23) rfl _ _ rfl rfl hb3 3 sizeTok rfl rfl (three_one _ _ _) ?_; intro w4 hb4 hg4; have hF4 := hF2.made C hx3 hg3 hg4)
                | (show wpList _ _ _ (⟨some 30, _, _, _, _, _⟩ :: _) _ _; refine wpList_load_blk rfl 80 (.tmp 10) rfl g14 rfl hb4 _ Tryz.underlying80 rfl 3 sizeTok rfl ?_)
                | (show wpList _ _ _ (⟨some 31, _, _, _, _, _⟩ :: _) _ _; refine wpList_lit1 rfl 67 80 (.tmp 30) rfl (some 31) rfl Tryz.underlying67 3 sizeTok tok_isS _ rfl rfl (by omega) (by omega) ?_; intro w5 g5 hb5 hx5 hg5; have hs5 : SL w5 3 (.slice (some ⟨g5, 0, none⟩) 1 1) 1 [.int .i64 t1, .int .i64 t2, .int .i64 t3] := Blk.sl (cs := #[.int .i64 t1, .int .i64 t2, .int .i64 t3]) hb5 rfl (by omega) (by omega); have hF5 := hF4.ext C hx5; have hrow5 := hF5.row; rw [HLN.out] at hrow5)
                | (at_builtin; go_must (refine wpList_append_slf elt_tok rfl (.tmp 29) (.tmp 31) rfl B _ n (toks L) rfl hrow5 _ 1 [.int .i64 t1, .int .i64 t2, .int .i64 t3] rfl hs5 (tok_one _ _ _) (by omega) (by omega) hF5.size ?_); intro A' c' w6 hown6 hgr6 hor6; have hb6 := (upd_grown hgr6).blk (hb4.ext hx5) (fun k => (hF2.fresh (g := g14) hg3).2.2.2 _ (by rw [HLN.out]; exact k) rfl); obtain ⟨p0, p1, p2⟩ := blk_three hb6; have hF6 : From B S Inv w w6 gb gr 37 z A' c' (L ++ [(t1, t2, t3)]) q' := hF5.app C blkT_ne (by rw [HLN.out]; exact hown6) (by rw [HLN.out]; exact hgr6))
                | (go_at_call 61; (with_reducible refine (HBKq.out _).mono ?_); rintro e w7 ⟨rfl, hx7⟩; obtain ⟨q0, q1, q2⟩ := blk_three (hb6.ext hx7); have hF7 := hF6.ext C hx7; have hr7 := hF7.r; rw [HCZ.out] at hr7)
                | (go_at_call 29; (with_reducible refine (HOB.out _).mono ?_); rintro e w' ⟨rfl, rfl⟩)
                | (show wpList _ _ _ (⟨some 43, _, _, _, _, _⟩ :: _) _ _; refine wpList_build0 rfl 37 rfl _ HBT.out ?_)
                | (show wpList _ _ _ (⟨none, .store _ (.tmp 4) (.tmp 43), _, _, _, _⟩ :: _) _ _; refine wpList_store_blk rfl 37 (.tmp 4) (.tmp 43) rfl _ _ rfl rfl hr7 64 size48 HS.out HS.out HO.out ?_; intro w9 hb9 hg9))
              obtain ⟨hi9, hu9, -⟩ := hF7.fin C blkT_ne hg9 HBs.out
              refine ret_cell_tmp2 rfl rfl _ rfl hb9 _ Tryz.underlying37 rfl 64 size48 HS.out ?_
              exact blkIs_err HGE.out HCZ.out hi9 hu9
          | true =>
            obtain ⟨k1, k2, k3, k4⟩ := tokOk1_iff.1 hok
            rw [HBK0.out] at k1 k3 k4
            simp only at k1 k2 k3 k4
            subst k1
            have d1 : (t1 != t2) = false := by simpa using k2
            have HOB := hid_ (fun W => outside_any (before + b1) (-2047) 2047 W)
            rw [inB_iff.2 ⟨k3, k4⟩] at HOB
            have HGE : Hid (G = finZ before (goB (next false) 1 (z.set 0 (before + b1)) (L ++ [(t1, t2, t3)]) q')) := hid_ (by rw [← HG.out, blkZ_fin HQ.out hok, HSTa.out.2.1, HSTa.out.2.2, HBK0.out]; rfl)
            have hz' : Half (z.set 0 (before + b1)) 1 := hz.set (by omega) (by omega) k3 k4
            clear hok k2 HT HT1 HQ HG HSTa HBK0
            go_wp2_with (first
              | (show wpList _ _ _ (⟨some 22, _, _, _, _, _⟩ :: _) _ _; refine wl_enter (by rfl) (run_callv (.tmp 19) _ _ rfl rfl hgo (#[.bool true] ++ cap) (by simp [Act.eval])) ?_; (with_reducible refine (HAq.out _ hF.inv hF.size).mono ?_); rintro e w2 ⟨rfl, hi2, hu2⟩; refine ⟨_, rfl, ?_⟩; have hF2 := hF.asked C hu2 hi2)
              | (show wpList _ _ _ (⟨some 10, _, _, _, _, _⟩ :: _) _ _; refine wpList_alloc_abs' rfl (some 10) rfl 80 rfl _ zeroTok ?_; intro w3 g14 hb3 hx3 hg3)
              | (show wpList _ _ _ (⟨none, .store _ (.tmp 10) (.tmp 23), _, _, _, _⟩ :: _) _ _; refine wpList_store_blk rfl 80 (.tmp 10) (.tmp 23) rfl _ _ rfl rfl hb3 3 sizeTok rfl rfl (three_one _ _ _) ?_; intro w4 hb4 hg4; have hF4 := hF2.made C hx3 hg3 hg4)
              | (show wpList _ _ _ (⟨some 30, _, _, _, _, _⟩ :: _) _ _; refine wpList_load_blk rfl 80 (.tmp 10) rfl g14 rfl hb4 _ Tryz.underlying80 rfl 3 sizeTok rfl ?_)
              | (show wpList _ _ _ (⟨some 31, _, _, _, _, _⟩ :: _) _ _; refine wpList_lit1 rfl 67 80 (.tmp 30) rfl (some 31) rfl Tryz.underlying67 3 sizeTok tok_isS _ rfl rfl (by omega) (by omega) ?_; intro w5 g5 hb5 hx5 hg5; have hs5 : SL w5 3 (.slice (some ⟨g5, 0, none⟩) 1 1) 1 [.int .i64 t1, .int .i64 t2, .int .i64 t3] := Blk.sl (cs := #[.int .i64 t1, .int .i64 t2, .int .i64 t3]) hb5 rfl (by omega) (by omega); have hF5 := hF4.ext C hx5; have hrow5 := hF5.row; rw [HLN.out] at hrow5)
              | (at_builtin; go_must (refine wpList_append_slf elt_tok rfl (.tmp 29) (.tmp 31) rfl B _ n (toks L) rfl hrow5 _ 1 [.int .i64 t1, .int .i64 t2, .int .i64 t3] rfl hs5 (tok_one _ _ _) (by omega) (by omega) hF5.size ?_); intro A' c' w6 hown6 hgr6 hor6; have hb6 := (upd_grown hgr6).blk (hb4.ext hx5) (fun k => (hF2.fresh (g := g14) hg3).2.2.2 _ (by rw [HLN.out]; exact k) rfl); obtain ⟨p0, p1, p2⟩ := blk_three hb6; have hF6 : From B S Inv w w6 gb gr 37 z A' c' (L ++ [(t1, t2, t3)]) q' := hF5.app C blkT_ne (by rw [HLN.out]; exact hown6) (by rw [HLN.out]; exact hgr6))
              | (go_at_call 61; (with_reducible refine (HBKq.out _).mono ?_); rintro e w7 ⟨rfl, hx7⟩; obtain ⟨q0, q1, q2⟩ := blk_three (hb6.ext hx7); have hF7 := hF6.ext C hx7; have hr7 := hF7.r; rw [HCZ.out] at hr7)
              | (go_at_call 29; (with_reducible refine (HOB.out _).mono ?_); rintro e w' ⟨rfl, rfl⟩)
              | (show wpList _ _ _ (⟨none, .store _ (.tmp 61) (.tmp 60), _, _, _, _⟩ :: _) _ _; refine wl_storeI rfl (.tmp 61) (.tmp 60) rfl gb 0 (before + b1) rfl rfl hF7.b (by rw [bv_size, HZL.out]; omega) ?_))
            go_roundw
            case rel => exact ⟨1, z.set 0 (before + b1), L ++ [(t1, t2, t3)], q', A', c', by omega, rfl, by rw [List.length_append, HLN.out]; rfl, by rw [List.length_append, HLN.out]; simp; omega, hz', hid_ (.inr ⟨by omega, HGE.out⟩), hF7.set C blkT_ne _ _⟩
            case measure => simp [intOf]; omega
        · have hxb : (x != 0) = true := by simpa using hx0
          have HGE : Hid (G = (x, List.replicate 64 0, [], q')) := hid_ (by rw [← HG.out, blkZ_err HQ.out hx0])
          clear hx0 HG HQ HSTa
          go_wp2_with (first
            | (show wpList _ _ _ (⟨some 22, _, _, _, _, _⟩ :: _) _ _; refine wl_enter (by rfl) (run_callv (.tmp 19) _ _ rfl rfl hgo (#[.bool true] ++ cap) (by simp [Act.eval])) ?_; (with_reducible refine (HAq.out _ hF.inv hF.size).mono ?_); rintro e w2 ⟨rfl, hi2, hu2⟩; refine ⟨_, rfl, ?_⟩; have hF2 := hF.asked C hu2 hi2)
            | (show wpList _ _ _ (⟨some 10, _, _, _, _, _⟩ :: _) _ _; refine wpList_alloc_abs' rfl (some 10) rfl 80 rfl _ zeroTok ?_; intro w3 g14 hb3 hx3 hg3)
            | (show wpList _ _ _ (⟨none, .store _ (.tmp 10) (.tmp 23), _, _, _, _⟩ :: _) _ _; refine wpList_store_blk rfl 80 (.tmp 10) (.tmp 23) rfl _ _ rfl rfl hb3 3 sizeTok rfl rfl (three_one _ _ _) ?_; intro w4 hb4 hg4; have hF4 := hF2.made C hx3 hg3 hg4; have hr4 := hF4.r; rw [HCZ.out] at hr4)
            | (show wpList _ _ _ (⟨some 27, _, _, _, _, _⟩ :: _) _ _; refine wpList_build0 rfl 37 rfl _ HBT.out ?_)
            | (show wpList _ _ _ (⟨none, .store _ (.tmp 4) (.tmp 27), _, _, _, _⟩ :: _) _ _; refine wpList_store_blk rfl 37 (.tmp 4) (.tmp 27) rfl _ _ rfl rfl hr4 64 size48 HS.out HS.out HO.out ?_; intro w9 hb9 hg9))
          obtain ⟨hi9, hu9, -⟩ := hF4.fin C blkT_ne hg9 HBs.out
          refine ret_cell_tmp2 rfl rfl _ rfl hb9 _ Tryz.underlying37 rfl 64 size48 HS.out ?_
          exact blkIs_err HGE.out HCZ.out hi9 hu9
      · have hk0' : ((k : Int) == 0) = false := by simp; omega
        have HSTa : Hid (G = finZ before (goB (next false) k z L q)) := hid_ (by
          rcases HST.out with ⟨h1, -⟩ | ⟨-, h2⟩
          · omega
          · exact h2)
        have hk1 : 1 ≤ k := by omega
        clear hk0 HST HG
        rcases hq : next false q with ⟨⟨t1, t2, t3⟩, x, q'⟩
        have HQ := hid_ hq
        have HAq : Hid (∀ W, Inv W q → B ≤ W.heap.size → Calls Tryz.prog f (#[.bool false] ++ cap) W fun e w' => e = .returned (.tuple #[.agg #[.int .i64 t1, .int .i64 t2, .int .i64 t3], .int .i64 x]) ∧ Inv w' q' ∧ Upd S W w') := hid_ (fun W a b => by have := HA2.out false q W a b; rw [hq] at this; exact this)
        clear hq HA2
        by_cases hx0 : x = 0
        · subst hx0
          have HBKq : Hid (∀ W, Calls Tryz.prog 61 #[.int .i64 t2, .int .i64 t3] W fun e w' => e = .returned (.tuple #[.int .i64 (backR t2 t3).1, .int .i64 (backR t2 t3).2]) ∧ Ext W w') := hid_ (fun W => rback_any t2 t3 W)
          obtain ⟨bd1, bd2, -⟩ := backR_bd t2 t3
          have HT : Hid (tokOk (t1, t2, t3) = decide ((backR t2 t3).2 = 0 ∧ t2 = t1 % 16 ∧ t2 ≤ 11 ∧ 0 ≤ t1 ∧ t1 ≤ 255 ∧ (t2 = 0 → t1 = 0 ∨ t1 = 240))) := hid_ (tokOk_def _)
          have HT1 : Hid (tokOk1 before (t1, t2, t3) = decide ((backR t2 t3).2 = 0 ∧ t1 = t2 ∧ -2047 ≤ before + (backR t2 t3).1 ∧ before + (backR t2 t3).1 ≤ 2047)) := hid_ (tokOk1_def before _)
          obtain ⟨bk, hbk⟩ : ∃ bk, backR t2 t3 = bk := ⟨_, rfl⟩
          have HBK0 := hid_ hbk
          rw [hbk] at HBKq bd1 bd2 HT HT1
          clear hbk
          obtain ⟨b1, b2⟩ := bk
          simp only at HBKq bd1 bd2 HT HT1
          by_cases kb : b2 = 0
          · subst kb
            go_upto_region 17 with (first
              | (show wpList _ _ _ (⟨some 22, _, _, _, _, _⟩ :: _) _ _; refine wl_enter (by rfl) (run_callv (.tmp 19) _ _ rfl rfl hgo (#[.bool false] ++ cap) (by simp [Act.eval])) ?_; (with_reducible refine (HAq.out _ hF.inv hF.size).mono ?_); rintro e w2 ⟨rfl, hi2, hu2⟩; refine ⟨_, rfl, ?_⟩; have hF2 := hF.asked C hu2 hi2)
              | (show wpList _ _ _ (⟨some 10, _, _, _, _, _⟩ :: _) _ _; refine wpList_alloc_abs' rfl (some 10) rfl 80 rfl _ zeroTok ?_; intro w3 g14 hb3 hx3 hg3)
              | (show wpList _ _ _ (⟨none, .store _ (.tmp 10) (.tmp 23), _, _, _, _⟩ :: _) _ _; refine wpList_store_blk rfl 80 (.tmp 10) (.tmp 23) rfl _ _ rfl rfl hb3 3 sizeTok rfl rfl (three_one _ _ _) ?_; intro w4 hb4 hg4; have hF4 := hF2.made C hx3 hg3 hg4)
              | (show wpList _ _ _ (⟨some 30, _, _, _, _, _⟩ :: _) _ _; refine wpList_load_blk rfl 80 (.tmp 10) rfl g14 rfl hb4 _ Tryz.underlying80 rfl 3 sizeTok rfl ?_)
              | (show wpList _ _ _ (⟨some 31, _, _, _, _, _⟩ :: _) _ _; refine wpList_lit1 rfl 67 80 (.tmp 30) rfl (some 31) rfl Tryz.underlying67 3 sizeTok tok_isS _ rfl rfl (by omega) (by omega) ?_; intro w5 g5 hb5 hx5 hg5; have hs5 : SL w5 3 (.slice (some ⟨g5, 0, none⟩) 1 1) 1 [.int .i64 t1, .int .i64 t2, .int .i64 t3] := Blk.sl (cs := #[.int .i64 t1, .int .i64 t2, .int .i64 t3]) hb5 rfl (by omega) (by omega); have hF5 := hF4.ext C hx5; have hrow5 := hF5.row; rw [HLN.out] at hrow5)
              | (at_builtin; go_must (refine wpList_append_slf elt_tok rfl (.tmp 29) (.tmp 31) rfl B _ n (toks L) rfl hrow5 _ 1 [.int .i64 t1, .int .i64 t2, .int .i64 t3] rfl hs5 (tok_one _ _ _) (by omega) (by omega) hF5.size ?_); intro A' c' w6 hown6 hgr6 hor6; have hb6 := (upd_grown hgr6).blk (hb4.ext hx5) (fun k => (hF2.fresh (g := g14) hg3).2.2.2 _ (by rw [HLN.out]; exact k) rfl); obtain ⟨p0, p1, p2⟩ := blk_three hb6; have hF6 : From B S Inv w w6 gb gr 37 z A' c' (L ++ [(t1, t2, t3)]) q' := hF5.app C blkT_ne (by rw [HLN.out]; exact hown6) (by rw [HLN.out]; exact hgr6))
              | (go_at_call 61; (with_reducible refine (HBKq.out _).mono ?_); rintro e w7 ⟨rfl, hx7⟩; obtain ⟨q0, q1, q2⟩ := blk_three (hb6.ext hx7); have hF7 := hF6.ext C hx7; have hr7 := hF7.r; rw [HCZ.out] at hr7))
            clear hF hF2 hF4 hF5 hb3 hb4 hb5 hx3 hx5 hg3 hg4 hg5 hrow5 hgr6 hor6 hown6 hi2 hu2 hF6 hb6 hx7 p0 p1 p2 hs5
            go_cut [92] from 16 to 109 (fun cv wx => cv = .bool (!tokOk (t1, t2, t3)) ∧ wx = w7)
            case first =>
              clear hF7 HSTa HQ HAq HBKq HBK0 HAL HO HS hz0 hz HCZ HBs C hgo hI HLN hL hk1 bd1 bd2 hbf1 hbf2 HBT HZL HT1
              by_cases kin : 0 ≤ t1 ∧ t1 ≤ 255
              · have HOB := hid_ (fun W => outside_any t1 0 255 W)
                rw [inB_iff.2 kin] at HOB
                obtain ⟨kin1, kin2⟩ := kin
                go_wp2_with (go_at_call 29; (with_reducible refine (HOB.out _).mono ?_); rintro e w' ⟨rfl, rfl⟩)
                all_goals go_meet
                all_goals (case rel => exact ⟨by rw [HT.out]; simp only [true_and]; refine congrArg Value.bool ?_; first | (rw [decide_eq_true (by omega)]; rfl) | (rw [decide_eq_false (by omega)]; rfl) | (by_cases h9 : t1 = 240 <;> first | (rw [decide_eq_true (by omega)]; simp [h9]; done) | (rw [decide_eq_false (by omega)]; simp [h9]; done)), rfl⟩)
              · have HOB := hid_ (fun W => outside_any t1 0 255 W)
                rw [inB_not.2 (by omega)] at HOB
                have kin1 : t1 < 0 ∨ 255 < t1 := by omega
                clear kin
                go_wp2_with (go_at_call 29; (with_reducible refine (HOB.out _).mono ?_); rintro e w' ⟨rfl, rfl⟩)
                all_goals go_meet
                all_goals (case rel => exact ⟨by rw [HT.out]; simp only [true_and]; refine congrArg Value.bool ?_; first | (rw [decide_eq_true (by omega)]; rfl) | (rw [decide_eq_false (by omega)]; rfl) | (by_cases h9 : t1 = 240 <;> first | (rw [decide_eq_true (by omega)]; simp [h9]; done) | (rw [decide_eq_false (by omega)]; simp [h9]; done)), rfl⟩)
            case rest =>
              obtain ⟨hc1, hc2⟩ := hcut
              subst hc1 hc2
              obtain ⟨Lx, hLx⟩ : ∃ Lx, Lx = L ++ [(t1, t2, t3)] := ⟨_, rfl⟩
              have HLx := hid_ hLx
              have HLn : Hid (Lx.length = n + 1) := hid_ (by rw [hLx, List.length_append, HLN.out]; rfl)
              rw [← hLx] at hF7
              clear hLx HT1
              cases hok : tokOk (t1, t2, t3) with
              | false =>
                have HGE : Hid (G = (4, List.replicate 64 0, [], q')) := hid_ (by rw [HSTa.out, goB_bad hlt HQ.out hok, finZ_err (by omega)])
                clear hok HT
                go_wp2_with (first
                  | (show wpList _ _ _ (⟨some 100, _, _, _, _, _⟩ :: _) _ _; refine wl_run rfl (.int .i64 ((d : Nat) : Int)) (ex_bin rfl rfl rfl hqu) ?_)
                  | (show wpList _ _ _ (⟨some 93, _, _, _, _, _⟩ :: _) _ _; refine wpList_build0 rfl 37 rfl _ HBT.out ?_)
                  | (show wpList _ _ _ (⟨none, .store _ (.tmp 4) (.tmp 93), _, _, _, _⟩ :: _) _ _; refine wpList_store_blk rfl 37 (.tmp 4) (.tmp 93) rfl _ _ rfl rfl hr7 64 size48 HS.out HS.out HO.out ?_; intro w9 hb9 hg9))
                obtain ⟨hi9, hu9, -⟩ := hF7.fin C blkT_ne hg9 HBs.out
                refine ret_cell_tmp2 rfl rfl _ rfl hb9 _ Tryz.underlying37 rfl 64 size48 HS.out ?_
                exact blkIs_err HGE.out HCZ.out hi9 hu9
              | true =>
                obtain ⟨k1, k2, k3, k4, k5, k6⟩ := tokOk_iff.1 hok
                simp only at k1 k2 k3 k4 k5 k6
                obtain ⟨e1, e2, e3, e4⟩ := backR_11 k1 k3
                rw [HBK0.out] at e1 e2
                simp only at e1 e2
                obtain ⟨m, hm⟩ : ∃ m : Nat, t1 = (m : Int) := ⟨t1.toNat, by omega⟩
                subst hm
                have hm255 : m ≤ 255 := by omega
                have HOK := hid_ hok
                clear hok k1 e4 HT
                by_cases h0 : m = 0
                · subst h0
                  have HFx : Hid (G = finZ before (0, z, Lx, q')) := hid_ (by rw [HSTa.out, HLx.out, goB_end hlt HQ.out HOK.out (by rfl)])
                  have hz64 : Half z k := hz
                  clear k2 k3 k4 k5 k6 e1 e2 e3 HSTa HQ HAq HBKq HBK0
                  obtain ⟨nx, hnx⟩ : ∃ nx, nx = n + 1 := ⟨_, rfl⟩
                  have HL2 : Hid (Lx.length = nx) := hid_ (by rw [HLn.out, hnx])
                  have hnx64 : nx ≤ 65 := by omega
                  rw [← hnx]
                  clear hnx HLn HLx
                  have HZF := hid_ (fun W => rzfrom_any z W hz64.len)
                  have HZS := hid_ (show (bv (zfrom z 64)).size = 64 by rw [bv_size, zfrom_len])
                  have HZ6 := hid_ (show (bv z).size = 64 by rw [bv_size]; exact hz64.len)
                  have HZO := hid_ (bv_one (zfrom z 64))
                  have HTK : Hid (∀ W, Calls Tryz.prog 63 #[.int .i64 before, .agg (bv (zfrom z 64))] W fun e w' => ∃ D d, e = .returned (.tuple #[.slice D (tokensZ before z).length d, .int .i64 0]) ∧ SL w' 3 (.slice D (tokensZ before z).length d) (tokensZ before z).length (toks (tokensZ before z)) ∧ Ext W w') := hid_ (fun W => by
                    have hzz := zto_zfrom z hz64.len
                    have h0 : z.getD 0 0 ∈ z := by
                      have : 0 < z.length := by rw [hz64.len]; omega
                      simp [List.getD_eq_getElem?_getD, this]
                    have hl := hz64.lo _ h0
                    have hal : allIn (zfrom z 64) (-2047) 2047 = true := allIn_iff.2 (zfrom_all z (fun x => -2047 ≤ x ∧ x ≤ 2047) (by omega) hz64.lo 64)
                    have := rtokens_in before (zfrom z 64) W (zfrom_len z 64) hbf1 hbf2 hal (by rw [hzz]; exact hl.1) (by rw [hzz]; exact hl.2)
                    rw [hzz] at this
                    exact this.mono fun e w' ⟨D, d, a1, a2, a4⟩ => ⟨D, d, a1, a2, a4⟩)
                  generalize hTZ : tokensZ before z = TZ at *
                  have HTZ := hid_ hTZ
                  generalize hzx : zfrom z 64 = zx at *
                  have HZX := hid_ hzx
                  clear hTZ hzx hz64
                  obtain ⟨nt, hnt⟩ : ∃ nt, TZ.length = nt := ⟨_, rfl⟩
                  have HNT := hid_ hnt
                  rw [hnt] at HTK
                  clear hnt
                  by_cases heq : TZ = Lx
                  · have HEQ := hid_ heq
                    have HSQ : Hid (∀ D d W, SL W 3 (.slice D nt d) nt (toks TZ) → SL W 3 (.slice A' nx c') nx (toks Lx) → Calls Tryz.prog 64 #[.slice D nt d, .slice A' nx c'] W fun e w' => e = .returned (.bool true) ∧ Ext W w') := hid_ (fun D d W h1 h2 => by
                      have := eqTok_any (.slice D nt d) (.slice A' nx c') TZ Lx W (by rw [HNT.out]; exact h1) (by rw [HL2.out]; exact h2)
                      rwa [decide_eq_true HEQ.out] at this)
                    clear heq
                    go_wp2_with (first
                      | (show wpList _ _ _ (⟨some 110, _, _, _, _, _⟩ :: _) _ _; refine wpList_load_blk rfl 37 (.tmp 8) rfl gb rfl hF7.b _ Tryz.underlying37 rfl 64 size48 HZ6.out ?_)
                      | (go_at_call 62; (with_reducible refine (HZF.out _).mono ?_); rintro e w8 ⟨rfl, hx8⟩; have hF8 := hF7.ext C hx8)
                      | (show wpList _ _ _ (⟨some 13, _, _, _, _, _⟩ :: _) _ _; refine wpList_alloc_abs' rfl (some 13) rfl 37 rfl _ HAL.out ?_; intro w9 g13 hb9 hx9 hg9)
                      | (show wpList _ _ _ (⟨none, .store _ (.tmp 13) (.tmp 111), _, _, _, _⟩ :: _) _ _; refine wpList_store_blk rfl 37 (.tmp 13) (.tmp 111) rfl _ _ rfl rfl hb9 64 size48 HZS.out hz0.out HZO.out ?_; intro w10 hb10' hg10; have hF10' := hF8.made C hx9 hg9 hg10)
                      | (show wpList _ _ _ (⟨some 114, _, _, _, _, _⟩ :: _) _ _; refine wpList_load_blk rfl 37 (.tmp 13) rfl g13 rfl hb10' _ Tryz.underlying37 rfl 64 size48 HZS.out ?_)
                      | (go_at_call 63; (with_reducible refine (HTK.out _).mono ?_); rintro e w10 ⟨D, d', rfl, hs10, hx10⟩; have hF10 := hF10'.ext C hx10; have hb10 := hb10'.ext hx10; have hr10 := own_sl hF10.row; rw [HL2.out] at hr10)
                      | (go_at_call 64; (with_reducible refine (HSQ.out _ _ _ hs10 hr10).mono ?_); rintro e w11 ⟨rfl, hx11⟩; have hF11 := hF10.ext C hx11; have hrr := hF11.r; rw [HCZ.out] at hrr)
                      | (show wpList _ _ _ (⟨some 123, _, _, _, _, _⟩ :: _) _ _; refine wpList_load_blk rfl 37 (.tmp 13) rfl g13 rfl (hb10.ext hx11) _ Tryz.underlying37 rfl 64 size48 HZS.out ?_)
                      | (show wpList _ _ _ (⟨none, .store _ (.tmp 4) (.tmp 123), _, _, _, _⟩ :: _) _ _; refine wpList_store_blk rfl 37 (.tmp 4) (.tmp 123) rfl _ _ rfl rfl hrr 64 size48 HZS.out HS.out HZO.out ?_; intro w12 hb12 hg12))
                    obtain ⟨hi12, hu12, hs12⟩ := hF11.fin C blkT_ne hg12 HBs.out
                    refine ret_cell_tmp2 rfl rfl _ rfl hb12 _ Tryz.underlying37 rfl 64 size48 HZS.out ?_
                    exact blkIs_good (HFx.out.trans ((finZ_good (HTZ.out.trans HEQ.out)).trans (by rw [HZX.out]))) HL2.out hi12 hu12
                  · have HEQ := hid_ heq
                    have HSQ : Hid (∀ D d W, SL W 3 (.slice D nt d) nt (toks TZ) → SL W 3 (.slice A' nx c') nx (toks Lx) → Calls Tryz.prog 64 #[.slice D nt d, .slice A' nx c'] W fun e w' => e = .returned (.bool false) ∧ Ext W w') := hid_ (fun D d W h1 h2 => by
                      have := eqTok_any (.slice D nt d) (.slice A' nx c') TZ Lx W (by rw [HNT.out]; exact h1) (by rw [HL2.out]; exact h2)
                      rwa [decide_eq_false HEQ.out] at this)
                    clear heq
                    go_wp2_with (first
                      | (show wpList _ _ _ (⟨some 110, _, _, _, _, _⟩ :: _) _ _; refine wpList_load_blk rfl 37 (.tmp 8) rfl gb rfl hF7.b _ Tryz.underlying37 rfl 64 size48 HZ6.out ?_)
                      | (go_at_call 62; (with_reducible refine (HZF.out _).mono ?_); rintro e w8 ⟨rfl, hx8⟩; have hF8 := hF7.ext C hx8)
                      | (show wpList _ _ _ (⟨some 13, _, _, _, _, _⟩ :: _) _ _; refine wpList_alloc_abs' rfl (some 13) rfl 37 rfl _ HAL.out ?_; intro w9 g13 hb9 hx9 hg9)
                      | (show wpList _ _ _ (⟨none, .store _ (.tmp 13) (.tmp 111), _, _, _, _⟩ :: _) _ _; refine wpList_store_blk rfl 37 (.tmp 13) (.tmp 111) rfl _ _ rfl rfl hb9 64 size48 HZS.out hz0.out HZO.out ?_; intro w10 hb10' hg10; have hF10' := hF8.made C hx9 hg9 hg10)
                      | (show wpList _ _ _ (⟨some 114, _, _, _, _, _⟩ :: _) _ _; refine wpList_load_blk rfl 37 (.tmp 13) rfl g13 rfl hb10' _ Tryz.underlying37 rfl 64 size48 HZS.out ?_)
                      | (go_at_call 63; (with_reducible refine (HTK.out _).mono ?_); rintro e w10 ⟨D, d', rfl, hs10, hx10⟩; have hF10 := hF10'.ext C hx10; have hb10 := hb10'.ext hx10; have hr10 := own_sl hF10.row; rw [HL2.out] at hr10)
                      | (go_at_call 64; (with_reducible refine (HSQ.out _ _ _ hs10 hr10).mono ?_); rintro e w11 ⟨rfl, hx11⟩; have hF11 := hF10.ext C hx11; have hrr := hF11.r; rw [HCZ.out] at hrr)
                      | (show wpList _ _ _ (⟨some 122, _, _, _, _, _⟩ :: _) _ _; refine wpList_build0 rfl 37 rfl _ HBT.out ?_)
                      | (show wpList _ _ _ (⟨none, .store _ (.tmp 4) (.tmp 122), _, _, _, _⟩ :: _) _ _; refine wpList_store_blk rfl 37 (.tmp 4) (.tmp 122) rfl _ _ rfl rfl hrr 64 size48 HS.out HS.out HO.out ?_; intro w12 hb12 hg12))
                    obtain ⟨hi12, hu12, -⟩ := hF11.fin C blkT_ne hg12 HBs.out
                    refine ret_cell_tmp2 rfl rfl _ rfl hb12 _ Tryz.underlying37 rfl 64 size48 HS.out ?_
                    exact blkIs_err (HFx.out.trans (finZ_ne (by rw [HTZ.out]; exact HEQ.out))) HCZ.out hi12 hu12
                · have hm0 : ((m : Int) == 0) = false := by simp; omega
                  obtain ⟨d, hd⟩ : ∃ d, d = m / 16 := ⟨_, rfl⟩
                  have hd15 : d ≤ 15 := by omega
                  have HD : Hid (((m : Int) / 16).toNat = d) := hid_ (by omega)
                  have hqu : ∀ W, (binOp .quo 3 (.int .i64 (m : Int)) (.int .i64 16)).run Tryz.prog W = .ok (.int .i64 (d : Int)) W := fun W => by rw [hd]; exact run_quoN m 16 (by omega) (by omega) W
                  clear hd
                  by_cases hf : 64 < k + d + 1
                  · have HGE : Hid (G = (4, List.replicate 64 0, [], q')) := hid_ (by rw [HSTa.out, goB_far hlt HQ.out HOK.out (by simp; omega) (by simp only; rw [HD.out]; omega), finZ_err (by omega)])
                    go_wp2_with (first
                      | (show wpList _ _ _ (⟨some 100, _, _, _, _, _⟩ :: _) _ _; refine wl_run rfl (.int .i64 ((d : Nat) : Int)) (ex_bin rfl rfl rfl hqu) ?_)
                      | (show wpList _ _ _ (⟨some 105, _, _, _, _, _⟩ :: _) _ _; refine wpList_build0 rfl 37 rfl _ HBT.out ?_)
                      | (show wpList _ _ _ (⟨none, .store _ (.tmp 4) (.tmp 105), _, _, _, _⟩ :: _) _ _; refine wpList_store_blk rfl 37 (.tmp 4) (.tmp 105) rfl _ _ rfl rfl hr7 64 size48 HS.out HS.out HO.out ?_; intro w9 hb9 hg9))
                    obtain ⟨hi9, hu9, -⟩ := hF7.fin C blkT_ne hg9 HBs.out
                    refine ret_cell_tmp2 rfl rfl _ rfl hb9 _ Tryz.underlying37 rfl 64 size48 HS.out ?_
                    exact blkIs_err HGE.out HCZ.out hi9 hu9
                  · have HGE : Hid (G = finZ before (goB (next false) (k + d + 1) (z.set (k + d) b1) Lx q')) := hid_ (by rw [HSTa.out, goB_step hlt HQ.out HOK.out (by simp; omega) (by simp only; rw [HD.out]; omega), HBK0.out, HLx.out]; simp only; rw [HD.out])
                    have hz' : Half (z.set (k + d) b1) (k + d + 1) := hz.set (by omega) (by omega) e1 e2
                    go_wp2_with (first
                      | (show wpList _ _ _ (⟨some 100, _, _, _, _, _⟩ :: _) _ _; refine wl_run rfl (.int .i64 ((d : Nat) : Int)) (ex_bin rfl rfl rfl hqu) ?_)
                      | (show wpList _ _ _ (⟨some 107, _, _, _, _, _⟩ :: _) _ _; refine wl_run rfl (.int .i64 ((k + d : Nat) : Int)) (ex_bin rfl rfl rfl (fun W => run_subI _ _ _ (by rw [IntWalk.i64_in _ (by omega)]; omega) W)) ?_)
                      | (show wpList _ _ _ (⟨none, .store _ (.tmp 109) (.tmp 108), _, _, _, _⟩ :: _) _ _; refine wl_storeI rfl (.tmp 109) (.tmp 108) rfl gb (k + d) b1 rfl rfl hF7.b (by rw [bv_size, HZL.out]; omega) ?_))
                    simp only [Act.put]
                    go_roundw
                    case rel => exact ⟨k + d + 1, z.set (k + d) b1, Lx, q', A', c', by omega, vint (by omega), by rw [HLn.out], by rw [HLn.out]; omega, hz', hid_ (.inr ⟨by omega, HGE.out⟩), hF7.set C blkT_ne _ _⟩
                    case measure => simp [intOf]; omega
          · have k1' : (b2 != 0) = true := by simpa using kb
            have HGE : Hid (G = (4, List.replicate 64 0, [], q')) := hid_ (by rw [HSTa.out, goB_bad hlt HQ.out (by rw [HT.out]; exact decide_eq_false (fun h => kb h.1)), finZ_err (by omega)])
            have HOB : True := trivial
            clear kb HT1 HT HSTa HQ
            go_wp2_with (first
              | (show wpList _ _ _ (⟨some 22, _, _, _, _, _⟩ :: _) _ _; refine wl_enter (by rfl) (run_callv (.tmp 19) _ _ rfl rfl hgo (#[.bool false] ++ cap) (by simp [Act.eval])) ?_; (with_reducible refine (HAq.out _ hF.inv hF.size).mono ?_); rintro e w2 ⟨rfl, hi2, hu2⟩; refine ⟨_, rfl, ?_⟩; have hF2 := hF.asked C hu2 hi2)
              | (show wpList _ _ _ (⟨some 10, _, _, _, _, _⟩ :: _) _ _; refine wpList_alloc_abs' rfl (some 10) rfl 80 rfl _ zeroTok ?_; intro w3 g14 hb3 hx3 hg3)
              | (show wpList _ _ _ (⟨none, .store _ (.tmp 10) (.tmp 23), _, _, _, _⟩ :: _) _ _; refine wpList_store_blk rfl 80 (.tmp 10) (.tmp 23) rfl _ _ rfl rfl hb3 3 sizeTok rfl rfl (three_one _ _ _) ?_; intro w4 hb4 hg4; have hF4 := hF2.made C hx3 hg3 hg4)
              | (show wpList _ _ _ (⟨some 30, _, _, _, _, _⟩ :: _) _ _; refine wpList_load_blk rfl 80 (.tmp 10) rfl g14 rfl hb4 _ Tryz.underlying80 rfl 3 sizeTok rfl ?_)
              | (show wpList _ _ _ (⟨some 31, _, _, _, _, _⟩ :: _) _ _; refine wpList_lit1 rfl 67 80 (.tmp 30) rfl (some 31) rfl Tryz.underlying67 3 sizeTok tok_isS _ rfl rfl (by omega) (by omega) ?_; intro w5 g5 hb5 hx5 hg5; have hs5 : SL w5 3 (.slice (some ⟨g5, 0, none⟩) 1 1) 1 [.int .i64 t1, .int .i64 t2, .int .i64 t3] := Blk.sl (cs := #[.int .i64 t1, .int .i64 t2, .int .i64 t3]) hb5 rfl (by omega) (by omega); have hF5 := hF4.ext C hx5; have hrow5 := hF5.row; rw [HLN.out] at hrow5)
              | (at_builtin; go_must (refine wpList_append_slf elt_tok rfl (.tmp 29) (.tmp 31) rfl B _ n (toks L) rfl hrow5 _ 1 [.int .i64 t1, .int .i64 t2, .int .i64 t3] rfl hs5 (tok_one _ _ _) (by omega) (by omega) hF5.size ?_); intro A' c' w6 hown6 hgr6 hor6; have hb6 := (upd_grown hgr6).blk (hb4.ext hx5) (fun k => (hF2.fresh (g := g14) hg3).2.2.2 _ (by rw [HLN.out]; exact k) rfl); obtain ⟨p0, p1, p2⟩ := blk_three hb6; have hF6 : From B S Inv w w6 gb gr 37 z A' c' (L ++ [(t1, t2, t3)]) q' := hF5.app C blkT_ne (by rw [HLN.out]; exact hown6) (by rw [HLN.out]; exact hgr6))
              | (go_at_call 61; (with_reducible refine (HBKq.out _).mono ?_); rintro e w7 ⟨rfl, hx7⟩; obtain ⟨q0, q1, q2⟩ := blk_three (hb6.ext hx7); have hF7 := hF6.ext C hx7; have hr7 := hF7.r; rw [HCZ.out] at hr7)
              | (go_at_call 29; (with_reducible refine (HOB.out _).mono ?_); rintro e w' ⟨rfl, rfl⟩)
              | (show wpList _ _ _ (⟨some 43, _, _, _, _, _⟩ :: _) _ _; refine wpList_build0 rfl 37 rfl _ HBT.out ?_)
              | (show wpList _ _ _ (⟨none, .store _ (.tmp 4) (.tmp 43), _, _, _, _⟩ :: _) _ _; refine wpList_store_blk rfl 37 (.tmp 4) (.tmp 43) rfl _ _ rfl rfl hr7 64 size48 HS.out HS.out HO.out ?_; intro w9 hb9 hg9))
            obtain ⟨hi9, hu9, -⟩ := hF7.fin C blkT_ne hg9 HBs.out
            refine ret_cell_tmp2 rfl rfl _ rfl hb9 _ Tryz.underlying37 rfl 64 size48 HS.out ?_
            exact blkIs_err HGE.out HCZ.out hi9 hu9
        · have hxb : (x != 0) = true := by simpa using hx0
          have HGE : Hid (G = (x, List.replicate 64 0, [], q')) := hid_ (by rw [HSTa.out, goB_err hlt HQ.out hx0, finZ_err hx0])
          clear hx0 HSTa HQ
          go_wp2_with (first
            | (show wpList _ _ _ (⟨some 22, _, _, _, _, _⟩ :: _) _ _; refine wl_enter (by rfl) (run_callv (.tmp 19) _ _ rfl rfl hgo (#[.bool false] ++ cap) (by simp [Act.eval])) ?_; (with_reducible refine (HAq.out _ hF.inv hF.size).mono ?_); rintro e w2 ⟨rfl, hi2, hu2⟩; refine ⟨_, rfl, ?_⟩; have hF2 := hF.asked C hu2 hi2)
            | (show wpList _ _ _ (⟨some 10, _, _, _, _, _⟩ :: _) _ _; refine wpList_alloc_abs' rfl (some 10) rfl 80 rfl _ zeroTok ?_; intro w3 g14 hb3 hx3 hg3)
            | (show wpList _ _ _ (⟨none, .store _ (.tmp 10) (.tmp 23), _, _, _, _⟩ :: _) _ _; refine wpList_store_blk rfl 80 (.tmp 10) (.tmp 23) rfl _ _ rfl rfl hb3 3 sizeTok rfl rfl (three_one _ _ _) ?_; intro w4 hb4 hg4; have hF4 := hF2.made C hx3 hg3 hg4; have hr4 := hF4.r; rw [HCZ.out] at hr4)
            | (show wpList _ _ _ (⟨some 27, _, _, _, _, _⟩ :: _) _ _; refine wpList_build0 rfl 37 rfl _ HBT.out ?_)
            | (show wpList _ _ _ (⟨none, .store _ (.tmp 4) (.tmp 27), _, _, _, _⟩ :: _) _ _; refine wpList_store_blk rfl 37 (.tmp 4) (.tmp 27) rfl _ _ rfl rfl hr4 64 size48 HS.out HS.out HO.out ?_; intro w9 hb9 hg9))
          obtain ⟨hi9, hu9, -⟩ := hF4.fin C blkT_ne hg9 HBs.out
          refine ret_cell_tmp2 rfl rfl _ rfl hb9 _ Tryz.underlying37 rfl 64 size48 HS.out ?_
          exact blkIs_err HGE.out HCZ.out hi9 hu9
    · have HFx : Hid (G = finZ before (0, z, L, q)) := hid_ (by
        rcases HST.out with ⟨h1, -⟩ | ⟨-, h2⟩
        · omega
        · rw [h2, goB_done (by omega)])
      have hz64 : Half z k := hz
      have hnx64 : n ≤ 65 := by omega
      clear HST HA2 HG
      have HZF := hid_ (fun W => rzfrom_any z W hz64.len)
      have HZS := hid_ (show (bv (zfrom z 64)).size = 64 by rw [bv_size, zfrom_len])
      have HZ6 := hid_ (show (bv z).size = 64 by rw [bv_size]; exact hz64.len)
      have HZO := hid_ (bv_one (zfrom z 64))
      have HTK : Hid (∀ W, Calls Tryz.prog 63 #[.int .i64 before, .agg (bv (zfrom z 64))] W fun e w' => ∃ D d, e = .returned (.tuple #[.slice D (tokensZ before z).length d, .int .i64 0]) ∧ SL w' 3 (.slice D (tokensZ before z).length d) (tokensZ before z).length (toks (tokensZ before z)) ∧ Ext W w') := hid_ (fun W => by
        have hzz := zto_zfrom z hz64.len
        have h0 : z.getD 0 0 ∈ z := by
          have : 0 < z.length := by rw [hz64.len]; omega
          simp [List.getD_eq_getElem?_getD, this]
        have hl := hz64.lo _ h0
        have hal : allIn (zfrom z 64) (-2047) 2047 = true := allIn_iff.2 (zfrom_all z (fun x => -2047 ≤ x ∧ x ≤ 2047) (by omega) hz64.lo 64)
        have := rtokens_in before (zfrom z 64) W (zfrom_len z 64) hbf1 hbf2 hal (by rw [hzz]; exact hl.1) (by rw [hzz]; exact hl.2)
        rw [hzz] at this
        exact this.mono fun e w' ⟨D, d, a1, a2, a4⟩ => ⟨D, d, a1, a2, a4⟩)
      generalize hTZ : tokensZ before z = TZ at *
      have HTZ := hid_ hTZ
      generalize hzx : zfrom z 64 = zx at *
      have HZX := hid_ hzx
      clear hTZ hzx hz64
      obtain ⟨nt, hnt⟩ : ∃ nt, TZ.length = nt := ⟨_, rfl⟩
      have HNT := hid_ hnt
      rw [hnt] at HTK
      clear hnt
      by_cases heq : TZ = L
      · have HEQ := hid_ heq
        have HSQ : Hid (∀ D d W, SL W 3 (.slice D nt d) nt (toks TZ) → SL W 3 (.slice A n c) n (toks L) → Calls Tryz.prog 64 #[.slice D nt d, .slice A n c] W fun e w' => e = .returned (.bool true) ∧ Ext W w') := hid_ (fun D d W h1 h2 => by
          have := eqTok_any (.slice D nt d) (.slice A n c) TZ L W (by rw [HNT.out]; exact h1) (by rw [HLN.out]; exact h2)
          rwa [decide_eq_true HEQ.out] at this)
        clear heq
        go_wp2_with (first
          | (show wpList _ _ _ (⟨some 110, _, _, _, _, _⟩ :: _) _ _; refine wpList_load_blk rfl 37 (.tmp 8) rfl gb rfl hF.b _ Tryz.underlying37 rfl 64 size48 HZ6.out ?_)
          | (go_at_call 62; (with_reducible refine (HZF.out _).mono ?_); rintro e w8 ⟨rfl, hx8⟩; have hF8 := hF.ext C hx8)
          | (show wpList _ _ _ (⟨some 13, _, _, _, _, _⟩ :: _) _ _; refine wpList_alloc_abs' rfl (some 13) rfl 37 rfl _ HAL.out ?_; intro w9 g13 hb9 hx9 hg9)
          | (show wpList _ _ _ (⟨none, .store _ (.tmp 13) (.tmp 111), _, _, _, _⟩ :: _) _ _; refine wpList_store_blk rfl 37 (.tmp 13) (.tmp 111) rfl _ _ rfl rfl hb9 64 size48 HZS.out hz0.out HZO.out ?_; intro w10 hb10' hg10; have hF10' := hF8.made C hx9 hg9 hg10)
          | (show wpList _ _ _ (⟨some 114, _, _, _, _, _⟩ :: _) _ _; refine wpList_load_blk rfl 37 (.tmp 13) rfl g13 rfl hb10' _ Tryz.underlying37 rfl 64 size48 HZS.out ?_)
          | (go_at_call 63; (with_reducible refine (HTK.out _).mono ?_); rintro e w10 ⟨D, d', rfl, hs10, hx10⟩; have hF10 := hF10'.ext C hx10; have hb10 := hb10'.ext hx10; have hr10 := own_sl hF10.row; rw [HLN.out] at hr10)
          | (go_at_call 64; (with_reducible refine (HSQ.out _ _ _ hs10 hr10).mono ?_); rintro e w11 ⟨rfl, hx11⟩; have hF11 := hF10.ext C hx11; have hrr := hF11.r; rw [HCZ.out] at hrr)
          | (show wpList _ _ _ (⟨some 123, _, _, _, _, _⟩ :: _) _ _; refine wpList_load_blk rfl 37 (.tmp 13) rfl g13 rfl (hb10.ext hx11) _ Tryz.underlying37 rfl 64 size48 HZS.out ?_)
          | (show wpList _ _ _ (⟨none, .store _ (.tmp 4) (.tmp 123), _, _, _, _⟩ :: _) _ _; refine wpList_store_blk rfl 37 (.tmp 4) (.tmp 123) rfl _ _ rfl rfl hrr 64 size48 HZS.out HS.out HZO.out ?_; intro w12 hb12 hg12))
        obtain ⟨hi12, hu12, hs12⟩ := hF11.fin C blkT_ne hg12 HBs.out
        refine ret_cell_tmp2 rfl rfl _ rfl hb12 _ Tryz.underlying37 rfl 64 size48 HZS.out ?_
        exact blkIs_good (HFx.out.trans ((finZ_good (HTZ.out.trans HEQ.out)).trans (by rw [HZX.out]))) HLN.out hi12 hu12
      · have HEQ := hid_ heq
        have HSQ : Hid (∀ D d W, SL W 3 (.slice D nt d) nt (toks TZ) → SL W 3 (.slice A n c) n (toks L) → Calls Tryz.prog 64 #[.slice D nt d, .slice A n c] W fun e w' => e = .returned (.bool false) ∧ Ext W w') := hid_ (fun D d W h1 h2 => by
          have := eqTok_any (.slice D nt d) (.slice A n c) TZ L W (by rw [HNT.out]; exact h1) (by rw [HLN.out]; exact h2)
          rwa [decide_eq_false HEQ.out] at this)
        clear heq
        go_wp2_with (first
          | (show wpList _ _ _ (⟨some 110, _, _, _, _, _⟩ :: _) _ _; refine wpList_load_blk rfl 37 (.tmp 8) rfl gb rfl hF.b _ Tryz.underlying37 rfl 64 size48 HZ6.out ?_)
          | (go_at_call 62; (with_reducible refine (HZF.out _).mono ?_); rintro e w8 ⟨rfl, hx8⟩; have hF8 := hF.ext C hx8)
          | (show wpList _ _ _ (⟨some 13, _, _, _, _, _⟩ :: _) _ _; refine wpList_alloc_abs' rfl (some 13) rfl 37 rfl _ HAL.out ?_; intro w9 g13 hb9 hx9 hg9)
          | (show wpList _ _ _ (⟨none, .store _ (.tmp 13) (.tmp 111), _, _, _, _⟩ :: _) _ _; refine wpList_store_blk rfl 37 (.tmp 13) (.tmp 111) rfl _ _ rfl rfl hb9 64 size48 HZS.out hz0.out HZO.out ?_; intro w10 hb10' hg10; have hF10' := hF8.made C hx9 hg9 hg10)
          | (show wpList _ _ _ (⟨some 114, _, _, _, _, _⟩ :: _) _ _; refine wpList_load_blk rfl 37 (.tmp 13) rfl g13 rfl hb10' _ Tryz.underlying37 rfl 64 size48 HZS.out ?_)
          | (go_at_call 63; (with_reducible refine (HTK.out _).mono ?_); rintro e w10 ⟨D, d', rfl, hs10, hx10⟩; have hF10 := hF10'.ext C hx10; have hb10 := hb10'.ext hx10; have hr10 := own_sl hF10.row; rw [HLN.out] at hr10)
          | (go_at_call 64; (with_reducible refine (HSQ.out _ _ _ hs10 hr10).mono ?_); rintro e w11 ⟨rfl, hx11⟩; have hF11 := hF10.ext C hx11; have hrr := hF11.r; rw [HCZ.out] at hrr)
          | (show wpList _ _ _ (⟨some 122, _, _, _, _, _⟩ :: _) _ _; refine wpList_build0 rfl 37 rfl _ HBT.out ?_)
          | (show wpList _ _ _ (⟨none, .store _ (.tmp 4) (.tmp 122), _, _, _, _⟩ :: _) _ _; refine wpList_store_blk rfl 37 (.tmp 4) (.tmp 122) rfl _ _ rfl rfl hrr 64 size48 HS.out HS.out HO.out ?_; intro w12 hb12 hg12))
        obtain ⟨hi12, hu12, -⟩ := hF11.fin C blkT_ne hg12 HBs.out
        refine ret_cell_tmp2 rfl rfl _ rfl hb12 _ Tryz.underlying37 rfl 64 size48 HS.out ?_
        exact blkIs_err (HFx.out.trans (finZ_ne (by rw [HTZ.out]; exact HEQ.out))) HCZ.out hi12 hu12
end
end Go.Proofs.YtgmddhljgfbibaaGreatDoor
