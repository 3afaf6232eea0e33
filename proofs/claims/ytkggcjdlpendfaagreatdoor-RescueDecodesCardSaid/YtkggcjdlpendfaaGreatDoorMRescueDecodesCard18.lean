/- Contracts for the law RescueDecodesCard, part 18: what the functions that it reaches answer, for all arguments that the theorems name. -/
import Derived.Test.YtkggcjdlpendfaaGreatDoorMRescueDecodesCard17
import Derived.Test.YtkggcjdlpendfaaGreatDoorMRescueDecodesCard16
import Derived.Test.YtkggcjdlpendfaaGreatDoorMRescueDecodesCard1
import Derived.Deep.Slices
import Derived.Test.YtkggcjdlpendfaaGreatDoorMRescueDecodesCard14
import Derived.Lib.Bytealg
namespace Go.Proofs.YtkggcjdlpendfaaGreatDoor
set_option linter.unusedVariables false
set_option linter.unusedSimpArgs false
open Go.RowKit
section
attribute [local irreducible] zfrom zto tokensZ accT bv backR tokOk
section
variable {σ : Type} {f : FuncId} {cap : Array Value} {B : Nat} {S : Nat → Prop} {Inv : World → σ → Prop} {next : Bool → σ → Tok × Int × σ}
def BlkIs (S : Nat → Prop) (Inv : World → σ → Prop) (w : World) (g : Int × List Int × List Tok × σ) (e : Ending) (w' : World) : Prop :=
 e = .returned (.tuple #[.agg (bv g.2.1), .int .i64 (g.2.2.1.length : Int), .int .i64 g.1]) ∧ Inv w' g.2.2.2 ∧ Upd S w w'
section
variable {w w' : World} {G : Int × List Int × List Tok × σ} {x : Int} {z zx : List Int} {L : List Tok} {q : σ} {n : Nat} {cz : Array Value} {Z0 : List Int}
theorem blkIs_err (hG : G = (x, Z0, [], q)) (hcz : bv Z0 = cz) (hi : Inv w' q) (hu : Upd S w w') : BlkIs S Inv w G (.returned (.tuple #[.agg cz, .int .i64 0, .int .i64 x])) w' := by
 subst hG hcz
 unfold BlkIs
 dsimp only
 exact ⟨rfl, hi, hu⟩
theorem blkIs_good (hG : G = (0, zx, L, q)) (hn : L.length = n) (hi : Inv w' q) (hu : Upd S w w') : BlkIs S Inv w G (.returned (.tuple #[.agg (bv zx), .int .i64 (n : Int), .int .i64 0])) w' := by
 subst hG hn
 unfold BlkIs
 dsimp only
 exact ⟨rfl, hi, hu⟩
end
set_option maxRecDepth 100000 in
set_option maxHeartbeats 40000000 in
theorem blockOf_any (before : Int) (hbf1 : -2047 ≤ before) (hbf2 : before ≤ 2047) (hgo : Goes Tryz.prog f) (C : Src f #[] cap B S Inv next) (w : World) (s : σ) (hI : Inv w s) (hB : B = w.heap.size) :
 Calls Tryz.prog 171 #[.int .i64 before, .func (.func f) #[] cap] w (BlkIs S Inv w (blkZ next before s)) := by
 have HA2 := hid_ (fun b q W (a : Inv W q) (c : B ≤ W.heap.size) => C.ask b q W a c)
 simp only [Array.empty_append, tokv_out] at HA2
 have HAL := hid_ (show (Tryz.prog.info? 33).bind (·.zero) = some (.agg (bv (List.replicate 64 0))) from zero48)
 have HBT := hid_ (show Tryz.prog.built 33 [] = some (bv (List.replicate 64 0)) by kernel_rfl)
 have HO := hid_ (bv_one (List.replicate 64 0))
 have HS := hid_ (show (bv (List.replicate 64 0)).size = 64 by rw [bv_size]; rfl)
 have hz0 := hid_ (show (Value.agg (bv (List.replicate 64 0))).cells.size = 64 by rw [show (Value.agg (bv (List.replicate 64 0))).cells = bv (List.replicate 64 0) from rfl, bv_size]; rfl)
 have HHALF : Half (List.replicate 64 0) 0 := ⟨by simp, fun x hx => by simp at hx; omega, fun j _ h => by rw [List.getElem?_replicate, if_pos h]⟩
 obtain ⟨G, hG⟩ : ∃ G, blkZ next before s = G := ⟨_, rfl⟩
 have HG := hid_ hG
 rw [hG]
 clear hG
 generalize hcz : bv (List.replicate 64 0) = cz at *
 have HCZ := hid_ hcz
 have HBs := hid_ hB
 clear hcz hB
 go_enter Tryz.func171, Tryz.ntmps171
 go_wp2_with (first
  | ((with_reducible apply gS 4); refine wAlo' rfl (some 4) rfl 33 rfl _ HAL.out ?_; intro w1 gr hb1 hx1 hg1)
  | ((with_reducible apply gS 8); refine wAlo' rfl (some 8) rfl 33 rfl _ HAL.out ?_; intro w2 gb hb2 hx2 hg2))
 have hF : From B S Inv w w2 gb gr 33 (List.replicate 64 0) none 0 [] s := by
  have hBB := HBs.out
  have s1 := hx1.size
  have s2 := hx2.size
  have l1 := hb1.lt
  have hr2 := hb1.ext hx2
  have hb2' : Blk w2 gb 33 (bv (List.replicate 64 0)) := by rw [HCZ.out]; exact hb2
  have hr2' : Blk w2 gr 33 (bv (List.replicate 64 0)) := by rw [HCZ.out]; exact hr2
  exact ⟨hb2', hr2', by omega, by omega, by omega, own_nil _ _ _ _, C.keep _ _ _ hI (upd_of_ext (hx1.trans hx2)), upd_of_ext (hx1.trans hx2), by omega⟩
 clear hb1 hx1 hg1 hb2 hx2 hg2
 go_loopw [7, 9] (fun vl i wr => ∃ (k : Nat) (z : List Int) (L : List Tok) (q : σ) (A : Option Addr) (c : Nat), k ≤ 64 ∧ i = .int .i64 (k : Int) ∧ vl = .slice A L.length c ∧ L.length ≤ k ∧ Half z k ∧ Hid ((k = 0 ∧ q = s ∧ L = [] ∧ z = List.replicate 64 0) ∨ (1 ≤ k ∧ G = finZ before (goB (next false) k z L q))) ∧ From B S Inv w wr gb gr 33 z A c L q) (fun _ i _ => 64 - (intOf i).toNat)
 case atStart => exact ⟨0, List.replicate 64 0, [], s, none, 0, by omega, rfl, rfl, by simp, HHALF, hid_ (.inl ⟨rfl, rfl, rfl, rfl⟩), hF⟩
 case round =>
  clear hF HHALF
  obtain ⟨k, z, L, q, A, c, hk, rfl, rfl, hL, hz, HST, hF⟩ := hrel
  obtain ⟨n, hn⟩ : ∃ n, L.length = n := ⟨_, rfl⟩
  have HLN := hid_ hn
  rw [hn] at hL ⊢
  clear hn
  have HZL := hid_ hz.len
  by_cases hlt : k < 64
  ·by_cases hk0 : k = 0
   ·have hk0' : ((k : Int) == 0) = true := by simp [hk0]
    have HSTa : Hid (q = s ∧ L = [] ∧ z = List.replicate 64 0) := hid_ (by
     rcases HST.out with ⟨-, h2⟩ | ⟨h1, -⟩
     ·exact h2
     ·omega)
    have hk00 : k ≤ 0 := by omega
    clear hk0
    rcases hq : next true q with ⟨⟨t1, t2, t3⟩, x, q'⟩
    have HQ : Hid (next true s = ((t1, t2, t3), x, q')) := hid_ (by rw [← HSTa.out.1]; exact hq)
    have HAq : Hid (∀ W, Inv W q → B ≤ W.heap.size → Calls Tryz.prog f (#[.bool true] ++ cap) W fun e w' => e = .returned (.tuple #[.agg #[.int .i64 t1, .int .i64 t2, .int .i64 t3], .int .i64 x]) ∧ Inv w' q' ∧ Upd S W w') := hid_ (fun W a b => by have := HA2.out true q W a b; rw [hq] at this; exact this)
    clear hq HST HA2
    by_cases hx0 : x = 0
    ·subst hx0
     have HBKq : Hid (∀ W, Calls Tryz.prog 192 #[.int .i64 t2, .int .i64 t3] W fun e w' => e = .returned (.tuple #[.int .i64 (backR t2 t3).1, .int .i64 (backR t2 t3).2]) ∧ Ext W w') := hid_ (fun W => rback_any t2 t3 W)
     obtain ⟨bd1, bd2, -⟩ := backR_bd t2 t3
     have HT : Hid (tokOk (t1, t2, t3) = decide ((backR t2 t3).2 = 0 ∧ t2 = t1 % 16 ∧ t2 ≤ 11 ∧ 0 ≤ t1 ∧ t1 ≤ 255 ∧ (t2 = 0 → t1 = 0 ∨ t1 = 240))) := hid_ (tokOk_def _)
     have HT1 : Hid (tokOk1 before (t1, t2, t3) = decide ((backR t2 t3).2 = 0 ∧ t1 = t2 ∧ -2047 ≤ before + (backR t2 t3).1 ∧ before + (backR t2 t3).1 ≤ 2047)) := hid_ (tokOk1_def before _)
     obtain ⟨bk, hbk⟩ : ∃ bk, backR t2 t3 = bk := ⟨_, rfl⟩
     have HBK0 := hid_ hbk
     rw [hbk] at HBKq bd1 bd2 HT HT1
     clear hbk
     obtain ⟨b1, b2⟩ := bk
     simp only at HBKq bd1 bd2 HT HT1
     cases hok : tokOk1 before (t1, t2, t3) with
     | false =>
       have HGE : Hid (G = (4, List.replicate 64 0, [], q')) := hid_ (by rw [← HG.out, blkZ_bad HQ.out hok])
       by_cases k1 : b2 = 0
       ·subst k1
        have hcase : (t1 != t2) = true ∨ ((t1 != t2) = false ∧ inB (before + b1) (-2047) 2047 = false) := by
         by_cases k2 : t1 = t2
         ·refine .inr ⟨by simpa using k2, ?_⟩
          rw [inB_not]
          have h3 := HT1.out
          rw [hok] at h3
          have h4 := of_decide_eq_false h3.symm
          omega
         ·exact .inl (by simpa using k2)
        have HOB := hid_ (fun W => outside_any (before + b1) (-2047) 2047 W)
        clear hok HT1 HT HG HQ HSTa
        rcases hcase with d1 | ⟨d1, d2⟩
        ·skip
         go_wp2_with (first
          | ((with_reducible apply gS 22); refine wl_enter (by rfl) (run_callv (.tmp 19) _ _ rfl rfl hgo (#[.bool true] ++ cap) (by simp [Act.eval])) ?_; (with_reducible refine (HAq.out _ hF.inv hF.size).mono ?_); rintro e w2 ⟨rfl, hi2, hu2⟩; refine ⟨_, rfl, ?_⟩; have hF2 := hF.asked C hu2 hi2)
          | ((with_reducible apply gS 10); refine wAlo' rfl (some 10) rfl 149 rfl _ zeroTok ?_; intro w3 g14 hb3 hx3 hg3)
          | ((with_reducible apply gT 10 23); refine wStB rfl 149 (.tmp 10) (.tmp 23) rfl _ _ rfl rfl hb3 3 sizeTok rfl rfl (three_one _ _ _) ?_; intro w4 hb4 hg4; have hF4 := hF2.made C hx3 hg3 hg4)
          | ((with_reducible apply gS 30); refine wLdB rfl 149 (.tmp 10) rfl g14 rfl hb4 _ Tryz.underlying149 rfl 3 sizeTok rfl ?_)
          | ((with_reducible apply gS 31); refine wLit1 rfl 145 149 (.tmp 30) rfl (some 31) rfl Tryz.underlying145 3 sizeTok tok_isS _ rfl rfl (by omega) (by omega) ?_; intro w5 g5 hb5 hx5 hg5; have hs5 : SL w5 3 (.slice (some ⟨g5, 0, none⟩) 1 1) 1 [.int .i64 t1, .int .i64 t2, .int .i64 t3] := Blk.sl (cs := #[.int .i64 t1, .int .i64 t2, .int .i64 t3]) hb5 rfl (by omega) (by omega); have hF5 := hF4.ext C hx5; have hrow5 := hF5.row; rw [HLN.out] at hrow5)
          | (at_builtin; go_must (refine wApf elt_tok rfl (.tmp 29) (.tmp 31) rfl B _ n (toks L) rfl hrow5 _ 1 [.int .i64 t1, .int .i64 t2, .int .i64 t3] rfl hs5 (tok_one _ _ _) (by omega) (by omega) hF5.size ?_); intro A' c' w6 hown6 hgr6 hor6; have hb6 := (upd_grown hgr6).blk (hb4.ext hx5) (fun k => (hF2.fresh (g := g14) hg3).2.2.2 _ (by rw [HLN.out]; exact k) rfl); obtain ⟨p0, p1, p2⟩ := blk_three hb6; have hF6 : From B S Inv w w6 gb gr 33 z A' c' (L ++ [(t1, t2, t3)]) q' := hF5.app C blkT_ne (by rw [HLN.out]; exact hown6) (by rw [HLN.out]; exact hgr6))
          | (go_at_call 192; (with_reducible refine (HBKq.out _).mono ?_); rintro e w7 ⟨rfl, hx7⟩; obtain ⟨q0, q1, q2⟩ := blk_three (hb6.ext hx7); have hF7 := hF6.ext C hx7; have hr7 := hF7.r; rw [HCZ.out] at hr7)
          | (go_at_call 54; (with_reducible refine (HOB.out _).mono ?_); rintro e w' ⟨rfl, rfl⟩)
          | ((with_reducible apply gS 57); refine wpList_build0 rfl 33 rfl _ HBT.out ?_)
          | ((with_reducible apply gT 4 57); refine wStB rfl 33 (.tmp 4) (.tmp 57) rfl _ _ rfl rfl hr7 64 size48 HS.out HS.out HO.out ?_; intro w9 hb9 hg9))
         obtain ⟨hi9, hu9, -⟩ := hF7.fin C blkT_ne hg9 HBs.out
         refine ret_cell_tmp2 rfl rfl _ rfl hb9 _ Tryz.underlying33 rfl 64 size48 HS.out ?_
         exact blkIs_err HGE.out HCZ.out hi9 hu9
        ·rw [d2] at HOB
         go_wp2_with (first
          | ((with_reducible apply gS 22); refine wl_enter (by rfl) (run_callv (.tmp 19) _ _ rfl rfl hgo (#[.bool true] ++ cap) (by simp [Act.eval])) ?_; (with_reducible refine (HAq.out _ hF.inv hF.size).mono ?_); rintro e w2 ⟨rfl, hi2, hu2⟩; refine ⟨_, rfl, ?_⟩; have hF2 := hF.asked C hu2 hi2)
          | ((with_reducible apply gS 10); refine wAlo' rfl (some 10) rfl 149 rfl _ zeroTok ?_; intro w3 g14 hb3 hx3 hg3)
          | ((with_reducible apply gT 10 23); refine wStB rfl 149 (.tmp 10) (.tmp 23) rfl _ _ rfl rfl hb3 3 sizeTok rfl rfl (three_one _ _ _) ?_; intro w4 hb4 hg4; have hF4 := hF2.made C hx3 hg3 hg4)
          | ((with_reducible apply gS 30); refine wLdB rfl 149 (.tmp 10) rfl g14 rfl hb4 _ Tryz.underlying149 rfl 3 sizeTok rfl ?_)
          | ((with_reducible apply gS 31); refine wLit1 rfl 145 149 (.tmp 30) rfl (some 31) rfl Tryz.underlying145 3 sizeTok tok_isS _ rfl rfl (by omega) (by omega) ?_; intro w5 g5 hb5 hx5 hg5; have hs5 : SL w5 3 (.slice (some ⟨g5, 0, none⟩) 1 1) 1 [.int .i64 t1, .int .i64 t2, .int .i64 t3] := Blk.sl (cs := #[.int .i64 t1, .int .i64 t2, .int .i64 t3]) hb5 rfl (by omega) (by omega); have hF5 := hF4.ext C hx5; have hrow5 := hF5.row; rw [HLN.out] at hrow5)
          | (at_builtin; go_must (refine wApf elt_tok rfl (.tmp 29) (.tmp 31) rfl B _ n (toks L) rfl hrow5 _ 1 [.int .i64 t1, .int .i64 t2, .int .i64 t3] rfl hs5 (tok_one _ _ _) (by omega) (by omega) hF5.size ?_); intro A' c' w6 hown6 hgr6 hor6; have hb6 := (upd_grown hgr6).blk (hb4.ext hx5) (fun k => (hF2.fresh (g := g14) hg3).2.2.2 _ (by rw [HLN.out]; exact k) rfl); obtain ⟨p0, p1, p2⟩ := blk_three hb6; have hF6 : From B S Inv w w6 gb gr 33 z A' c' (L ++ [(t1, t2, t3)]) q' := hF5.app C blkT_ne (by rw [HLN.out]; exact hown6) (by rw [HLN.out]; exact hgr6))
          | (go_at_call 192; (with_reducible refine (HBKq.out _).mono ?_); rintro e w7 ⟨rfl, hx7⟩; obtain ⟨q0, q1, q2⟩ := blk_three (hb6.ext hx7); have hF7 := hF6.ext C hx7; have hr7 := hF7.r; rw [HCZ.out] at hr7)
          | (go_at_call 54; (with_reducible refine (HOB.out _).mono ?_); rintro e w' ⟨rfl, rfl⟩)
          | ((with_reducible apply gS 57); refine wpList_build0 rfl 33 rfl _ HBT.out ?_)
          | ((with_reducible apply gT 4 57); refine wStB rfl 33 (.tmp 4) (.tmp 57) rfl _ _ rfl rfl hr7 64 size48 HS.out HS.out HO.out ?_; intro w9 hb9 hg9))
         obtain ⟨hi9, hu9, -⟩ := hF7.fin C blkT_ne hg9 HBs.out
         refine ret_cell_tmp2 rfl rfl _ rfl hb9 _ Tryz.underlying33 rfl 64 size48 HS.out ?_
         exact blkIs_err HGE.out HCZ.out hi9 hu9
       ·have k1' : (b2 != 0) = true := by simpa using k1
        have HOB : True := trivial
        clear k1 hok HT1 HT HG HQ HSTa
        go_wp2_with (first
         | ((with_reducible apply gS 22); refine wl_enter (by rfl) (run_callv (.tmp 19) _ _ rfl rfl hgo (#[.bool true] ++ cap) (by simp [Act.eval])) ?_; (with_reducible refine (HAq.out _ hF.inv hF.size).mono ?_); rintro e w2 ⟨rfl, hi2, hu2⟩; refine ⟨_, rfl, ?_⟩; have hF2 := hF.asked C hu2 hi2)
         | ((with_reducible apply gS 10); refine wAlo' rfl (some 10) rfl 149 rfl _ zeroTok ?_; intro w3 g14 hb3 hx3 hg3)
         | ((with_reducible apply gT 10 23); refine wStB rfl 149 (.tmp 10) (.tmp 23) rfl _ _ rfl rfl hb3 3 sizeTok rfl rfl (three_one _ _ _) ?_; intro w4 hb4 hg4; have hF4 := hF2.made C hx3 hg3 hg4)
         | ((with_reducible apply gS 30); refine wLdB rfl 149 (.tmp 10) rfl g14 rfl hb4 _ Tryz.underlying149 rfl 3 sizeTok rfl ?_)
         | ((with_reducible apply gS 31); refine wLit1 rfl 145 149 (.tmp 30) rfl (some 31) rfl Tryz.underlying145 3 sizeTok tok_isS _ rfl rfl (by omega) (by omega) ?_; intro w5 g5 hb5 hx5 hg5; have hs5 : SL w5 3 (.slice (some ⟨g5, 0, none⟩) 1 1) 1 [.int .i64 t1, .int .i64 t2, .int .i64 t3] := Blk.sl (cs := #[.int .i64 t1, .int .i64 t2, .int .i64 t3]) hb5 rfl (by omega) (by omega); have hF5 := hF4.ext C hx5; have hrow5 := hF5.row; rw [HLN.out] at hrow5)
         | (at_builtin; go_must (refine wApf elt_tok rfl (.tmp 29) (.tmp 31) rfl B _ n (toks L) rfl hrow5 _ 1 [.int .i64 t1, .int .i64 t2, .int .i64 t3] rfl hs5 (tok_one _ _ _) (by omega) (by omega) hF5.size ?_); intro A' c' w6 hown6 hgr6 hor6; have hb6 := (upd_grown hgr6).blk (hb4.ext hx5) (fun k => (hF2.fresh (g := g14) hg3).2.2.2 _ (by rw [HLN.out]; exact k) rfl); obtain ⟨p0, p1, p2⟩ := blk_three hb6; have hF6 : From B S Inv w w6 gb gr 33 z A' c' (L ++ [(t1, t2, t3)]) q' := hF5.app C blkT_ne (by rw [HLN.out]; exact hown6) (by rw [HLN.out]; exact hgr6))
         | (go_at_call 192; (with_reducible refine (HBKq.out _).mono ?_); rintro e w7 ⟨rfl, hx7⟩; obtain ⟨q0, q1, q2⟩ := blk_three (hb6.ext hx7); have hF7 := hF6.ext C hx7; have hr7 := hF7.r; rw [HCZ.out] at hr7)
         | (go_at_call 54; (with_reducible refine (HOB.out _).mono ?_); rintro e w' ⟨rfl, rfl⟩)
         | ((with_reducible apply gS 43); refine wpList_build0 rfl 33 rfl _ HBT.out ?_)
         | ((with_reducible apply gT 4 43); refine wStB rfl 33 (.tmp 4) (.tmp 43) rfl _ _ rfl rfl hr7 64 size48 HS.out HS.out HO.out ?_; intro w9 hb9 hg9))
        obtain ⟨hi9, hu9, -⟩ := hF7.fin C blkT_ne hg9 HBs.out
        refine ret_cell_tmp2 rfl rfl _ rfl hb9 _ Tryz.underlying33 rfl 64 size48 HS.out ?_
        exact blkIs_err HGE.out HCZ.out hi9 hu9
     | true =>
       obtain ⟨k1, k2, k3, k4⟩ := tokOk1_iff.1 hok
       rw [HBK0.out] at k1 k3 k4
       simp only at k1 k2 k3 k4
       subst k1
       have d1 : (t1 != t2) = false := by simpa using k2
       have HOB := hid_ (fun W => outside_any (before + b1) (-2047) 2047 W)
       rw [inB_iff.2 ⟨k3, k4⟩] at HOB
       have HGE : Hid (G = finZ before (goB (next false) 1 (z.set 0 (before + b1)) (L ++ [(t1, t2, t3)]) q')) := hid_ (by rw [← HG.out, blkZ_fin HQ.out hok, HSTa.out.2.1, HSTa.out.2.2, HBK0.out]; rfl)
       have hz' : Half (z.set 0 (before + b1)) 1 := hz.set (by omega) (by omega) k3 k4
       clear hok k2 HT HT1 HQ HG HSTa HBK0
       go_wp2_with (first
        | ((with_reducible apply gS 22); refine wl_enter (by rfl) (run_callv (.tmp 19) _ _ rfl rfl hgo (#[.bool true] ++ cap) (by simp [Act.eval])) ?_; (with_reducible refine (HAq.out _ hF.inv hF.size).mono ?_); rintro e w2 ⟨rfl, hi2, hu2⟩; refine ⟨_, rfl, ?_⟩; have hF2 := hF.asked C hu2 hi2)
        | ((with_reducible apply gS 10); refine wAlo' rfl (some 10) rfl 149 rfl _ zeroTok ?_; intro w3 g14 hb3 hx3 hg3)
        | ((with_reducible apply gT 10 23); refine wStB rfl 149 (.tmp 10) (.tmp 23) rfl _ _ rfl rfl hb3 3 sizeTok rfl rfl (three_one _ _ _) ?_; intro w4 hb4 hg4; have hF4 := hF2.made C hx3 hg3 hg4)
        | ((with_reducible apply gS 30); refine wLdB rfl 149 (.tmp 10) rfl g14 rfl hb4 _ Tryz.underlying149 rfl 3 sizeTok rfl ?_)
        | ((with_reducible apply gS 31); refine wLit1 rfl 145 149 (.tmp 30) rfl (some 31) rfl Tryz.underlying145 3 sizeTok tok_isS _ rfl rfl (by omega) (by omega) ?_; intro w5 g5 hb5 hx5 hg5; have hs5 : SL w5 3 (.slice (some ⟨g5, 0, none⟩) 1 1) 1 [.int .i64 t1, .int .i64 t2, .int .i64 t3] := Blk.sl (cs := #[.int .i64 t1, .int .i64 t2, .int .i64 t3]) hb5 rfl (by omega) (by omega); have hF5 := hF4.ext C hx5; have hrow5 := hF5.row; rw [HLN.out] at hrow5)
        | (at_builtin; go_must (refine wApf elt_tok rfl (.tmp 29) (.tmp 31) rfl B _ n (toks L) rfl hrow5 _ 1 [.int .i64 t1, .int .i64 t2, .int .i64 t3] rfl hs5 (tok_one _ _ _) (by omega) (by omega) hF5.size ?_); intro A' c' w6 hown6 hgr6 hor6; have hb6 := (upd_grown hgr6).blk (hb4.ext hx5) (fun k => (hF2.fresh (g := g14) hg3).2.2.2 _ (by rw [HLN.out]; exact k) rfl); obtain ⟨p0, p1, p2⟩ := blk_three hb6; have hF6 : From B S Inv w w6 gb gr 33 z A' c' (L ++ [(t1, t2, t3)]) q' := hF5.app C blkT_ne (by rw [HLN.out]; exact hown6) (by rw [HLN.out]; exact hgr6))
        | (go_at_call 192; (with_reducible refine (HBKq.out _).mono ?_); rintro e w7 ⟨rfl, hx7⟩; obtain ⟨q0, q1, q2⟩ := blk_three (hb6.ext hx7); have hF7 := hF6.ext C hx7; have hr7 := hF7.r; rw [HCZ.out] at hr7)
        | (go_at_call 54; (with_reducible refine (HOB.out _).mono ?_); rintro e w' ⟨rfl, rfl⟩)
        | ((with_reducible apply gT 61 60); refine wl_storeI rfl (.tmp 61) (.tmp 60) rfl gb 0 (before + b1) rfl rfl hF7.b (by rw [bv_size, HZL.out]; omega) ?_))
       go_roundw
       case rel => exact ⟨1, z.set 0 (before + b1), L ++ [(t1, t2, t3)], q', A', c', by omega, rfl, by rw [List.length_append, HLN.out]; rfl, by rw [List.length_append, HLN.out]; simp; omega, hz', hid_ (.inr ⟨by omega, HGE.out⟩), hF7.set C blkT_ne _ _⟩
       case measure => simp [intOf]; omega
    ·have hxb : (x != 0) = true := by simpa using hx0
     have HGE : Hid (G = (x, List.replicate 64 0, [], q')) := hid_ (by rw [← HG.out, blkZ_err HQ.out hx0])
     clear hx0 HG HQ HSTa
     go_wp2_with (first
      | ((with_reducible apply gS 22); refine wl_enter (by rfl) (run_callv (.tmp 19) _ _ rfl rfl hgo (#[.bool true] ++ cap) (by simp [Act.eval])) ?_; (with_reducible refine (HAq.out _ hF.inv hF.size).mono ?_); rintro e w2 ⟨rfl, hi2, hu2⟩; refine ⟨_, rfl, ?_⟩; have hF2 := hF.asked C hu2 hi2)
      | ((with_reducible apply gS 10); refine wAlo' rfl (some 10) rfl 149 rfl _ zeroTok ?_; intro w3 g14 hb3 hx3 hg3)
      | ((with_reducible apply gT 10 23); refine wStB rfl 149 (.tmp 10) (.tmp 23) rfl _ _ rfl rfl hb3 3 sizeTok rfl rfl (three_one _ _ _) ?_; intro w4 hb4 hg4; have hF4 := hF2.made C hx3 hg3 hg4; have hr4 := hF4.r; rw [HCZ.out] at hr4)
      | ((with_reducible apply gS 27); refine wpList_build0 rfl 33 rfl _ HBT.out ?_)
      | ((with_reducible apply gT 4 27); refine wStB rfl 33 (.tmp 4) (.tmp 27) rfl _ _ rfl rfl hr4 64 size48 HS.out HS.out HO.out ?_; intro w9 hb9 hg9))
     obtain ⟨hi9, hu9, -⟩ := hF4.fin C blkT_ne hg9 HBs.out
     refine ret_cell_tmp2 rfl rfl _ rfl hb9 _ Tryz.underlying33 rfl 64 size48 HS.out ?_
     exact blkIs_err HGE.out HCZ.out hi9 hu9
   ·have hk0' : ((k : Int) == 0) = false := by simp; omega
    have HSTa : Hid (G = finZ before (goB (next false) k z L q)) := hid_ (by
     rcases HST.out with ⟨h1, -⟩ | ⟨-, h2⟩
     ·omega
     ·exact h2)
    have hk1 : 1 ≤ k := by omega
    clear hk0 HST HG
    rcases hq : next false q with ⟨⟨t1, t2, t3⟩, x, q'⟩
    have HQ := hid_ hq
    have HAq : Hid (∀ W, Inv W q → B ≤ W.heap.size → Calls Tryz.prog f (#[.bool false] ++ cap) W fun e w' => e = .returned (.tuple #[.agg #[.int .i64 t1, .int .i64 t2, .int .i64 t3], .int .i64 x]) ∧ Inv w' q' ∧ Upd S W w') := hid_ (fun W a b => by have := HA2.out false q W a b; rw [hq] at this; exact this)
    clear hq HA2
    by_cases hx0 : x = 0
    ·subst hx0
     have HBKq : Hid (∀ W, Calls Tryz.prog 192 #[.int .i64 t2, .int .i64 t3] W fun e w' => e = .returned (.tuple #[.int .i64 (backR t2 t3).1, .int .i64 (backR t2 t3).2]) ∧ Ext W w') := hid_ (fun W => rback_any t2 t3 W)
     obtain ⟨bd1, bd2, -⟩ := backR_bd t2 t3
     have HT : Hid (tokOk (t1, t2, t3) = decide ((backR t2 t3).2 = 0 ∧ t2 = t1 % 16 ∧ t2 ≤ 11 ∧ 0 ≤ t1 ∧ t1 ≤ 255 ∧ (t2 = 0 → t1 = 0 ∨ t1 = 240))) := hid_ (tokOk_def _)
     have HT1 : Hid (tokOk1 before (t1, t2, t3) = decide ((backR t2 t3).2 = 0 ∧ t1 = t2 ∧ -2047 ≤ before + (backR t2 t3).1 ∧ before + (backR t2 t3).1 ≤ 2047)) := hid_ (tokOk1_def before _)
     obtain ⟨bk, hbk⟩ : ∃ bk, backR t2 t3 = bk := ⟨_, rfl⟩
     have HBK0 := hid_ hbk
     rw [hbk] at HBKq bd1 bd2 HT HT1
     clear hbk
     obtain ⟨b1, b2⟩ := bk
     simp only at HBKq bd1 bd2 HT HT1
     by_cases kb : b2 = 0
     ·subst kb
      go_upto_region 17 with (first
       | ((with_reducible apply gS 22); refine wl_enter (by rfl) (run_callv (.tmp 19) _ _ rfl rfl hgo (#[.bool false] ++ cap) (by simp [Act.eval])) ?_; (with_reducible refine (HAq.out _ hF.inv hF.size).mono ?_); rintro e w2 ⟨rfl, hi2, hu2⟩; refine ⟨_, rfl, ?_⟩; have hF2 := hF.asked C hu2 hi2)
       | ((with_reducible apply gS 10); refine wAlo' rfl (some 10) rfl 149 rfl _ zeroTok ?_; intro w3 g14 hb3 hx3 hg3)
       | ((with_reducible apply gT 10 23); refine wStB rfl 149 (.tmp 10) (.tmp 23) rfl _ _ rfl rfl hb3 3 sizeTok rfl rfl (three_one _ _ _) ?_; intro w4 hb4 hg4; have hF4 := hF2.made C hx3 hg3 hg4)
       | ((with_reducible apply gS 30); refine wLdB rfl 149 (.tmp 10) rfl g14 rfl hb4 _ Tryz.underlying149 rfl 3 sizeTok rfl ?_)
       | ((with_reducible apply gS 31); refine wLit1 rfl 145 149 (.tmp 30) rfl (some 31) rfl Tryz.underlying145 3 sizeTok tok_isS _ rfl rfl (by omega) (by omega) ?_; intro w5 g5 hb5 hx5 hg5; have hs5 : SL w5 3 (.slice (some ⟨g5, 0, none⟩) 1 1) 1 [.int .i64 t1, .int .i64 t2, .int .i64 t3] := Blk.sl (cs := #[.int .i64 t1, .int .i64 t2, .int .i64 t3]) hb5 rfl (by omega) (by omega); have hF5 := hF4.ext C hx5; have hrow5 := hF5.row; rw [HLN.out] at hrow5)
       | (at_builtin; go_must (refine wApf elt_tok rfl (.tmp 29) (.tmp 31) rfl B _ n (toks L) rfl hrow5 _ 1 [.int .i64 t1, .int .i64 t2, .int .i64 t3] rfl hs5 (tok_one _ _ _) (by omega) (by omega) hF5.size ?_); intro A' c' w6 hown6 hgr6 hor6; have hb6 := (upd_grown hgr6).blk (hb4.ext hx5) (fun k => (hF2.fresh (g := g14) hg3).2.2.2 _ (by rw [HLN.out]; exact k) rfl); obtain ⟨p0, p1, p2⟩ := blk_three hb6; have hF6 : From B S Inv w w6 gb gr 33 z A' c' (L ++ [(t1, t2, t3)]) q' := hF5.app C blkT_ne (by rw [HLN.out]; exact hown6) (by rw [HLN.out]; exact hgr6))
       | (go_at_call 192; (with_reducible refine (HBKq.out _).mono ?_); rintro e w7 ⟨rfl, hx7⟩; obtain ⟨q0, q1, q2⟩ := blk_three (hb6.ext hx7); have hF7 := hF6.ext C hx7; have hr7 := hF7.r; rw [HCZ.out] at hr7))
      clear hF hF2 hF4 hF5 hb3 hb4 hb5 hx3 hx5 hg3 hg4 hg5 hrow5 hgr6 hor6 hown6 hi2 hu2 hF6 hb6 hx7 p0 p1 p2 hs5
      go_cut [92] from 16 to 109 (fun cv wx => cv = .bool (!tokOk (t1, t2, t3)) ∧ wx = w7)
      case first =>
       clear hF7 HSTa HQ HAq HBKq HBK0 HAL HO HS hz0 hz HCZ HBs C hgo hI HLN hL hk1 bd1 bd2 hbf1 hbf2 HBT HZL HT1
       by_cases kin : 0 ≤ t1 ∧ t1 ≤ 255
       ·have HOB := hid_ (fun W => outside_any t1 0 255 W)
        rw [inB_iff.2 kin] at HOB
        obtain ⟨kin1, kin2⟩ := kin
        go_wp2_with (go_at_call 54; (with_reducible refine (HOB.out _).mono ?_); rintro e w' ⟨rfl, rfl⟩)
        all_goals go_meet
        all_goals (case rel => exact ⟨by rw [HT.out]; simp only [true_and]; refine congrArg Value.bool ?_; first | (rw [decide_eq_true (by omega)]; rfl) | (rw [decide_eq_false (by omega)]; rfl) | (by_cases h9 : t1 = 240 <;> first | (rw [decide_eq_true (by omega)]; simp [h9]; done) | (rw [decide_eq_false (by omega)]; simp [h9]; done)), rfl⟩)
       ·have HOB := hid_ (fun W => outside_any t1 0 255 W)
        rw [inB_not.2 (by omega)] at HOB
        have kin1 : t1 < 0 ∨ 255 < t1 := by omega
        clear kin
        go_wp2_with (go_at_call 54; (with_reducible refine (HOB.out _).mono ?_); rintro e w' ⟨rfl, rfl⟩)
        all_goals go_meet
        all_goals (case rel => exact ⟨by rw [HT.out]; simp only [true_and]; refine congrArg Value.bool ?_; first | (rw [decide_eq_true (by omega)]; rfl) | (rw [decide_eq_false (by omega)]; rfl) | (by_cases h9 : t1 = 240 <;> first | (rw [decide_eq_true (by omega)]; simp [h9]; done) | (rw [decide_eq_false (by omega)]; simp [h9]; done)), rfl⟩)
      case rest =>
       obtain ⟨hc1, hc2⟩ := hcut
       subst hc1 hc2
       obtain ⟨Lx, hLx⟩ : ∃ Lx, Lx = L ++ [(t1, t2, t3)] := ⟨_, rfl⟩
       have HLx := hid_ hLx
       have HLn : Hid (Lx.length = n + 1) := hid_ (by rw [hLx, List.length_append, HLN.out]; rfl)
       rw [← hLx] at hF7
       clear hLx HT1
       cases hok : tokOk (t1, t2, t3) with
       | false =>
         have HGE : Hid (G = (4, List.replicate 64 0, [], q')) := hid_ (by rw [HSTa.out, goB_bad hlt HQ.out hok, finZ_err (by omega)])
         clear hok HT
         go_wp2_with (first
          | ((with_reducible apply gS 100); refine wl_run rfl (.int .i64 ((d : Nat) : Int)) (ex_bin rfl rfl rfl hqu) ?_)
          | ((with_reducible apply gS 93); refine wpList_build0 rfl 33 rfl _ HBT.out ?_)
          | ((with_reducible apply gT 4 93); refine wStB rfl 33 (.tmp 4) (.tmp 93) rfl _ _ rfl rfl hr7 64 size48 HS.out HS.out HO.out ?_; intro w9 hb9 hg9))
         obtain ⟨hi9, hu9, -⟩ := hF7.fin C blkT_ne hg9 HBs.out
         refine ret_cell_tmp2 rfl rfl _ rfl hb9 _ Tryz.underlying33 rfl 64 size48 HS.out ?_
         exact blkIs_err HGE.out HCZ.out hi9 hu9
       | true =>
         obtain ⟨k1, k2, k3, k4, k5, k6⟩ := tokOk_iff.1 hok
         simp only at k1 k2 k3 k4 k5 k6
         obtain ⟨e1, e2, e3, e4⟩ := backR_11 k1 k3
         rw [HBK0.out] at e1 e2
         simp only at e1 e2
         obtain ⟨m, hm⟩ : ∃ m : Nat, t1 = (m : Int) := ⟨t1.toNat, by omega⟩
         subst hm
         have hm255 : m ≤ 255 := by omega
         have HOK := hid_ hok
         clear hok k1 e4 HT
         by_cases h0 : m = 0
         ·subst h0
          have HFx : Hid (G = finZ before (0, z, Lx, q')) := hid_ (by rw [HSTa.out, HLx.out, goB_end hlt HQ.out HOK.out (by rfl)])
          have hz64 : Half z k := hz
          clear k2 k3 k4 k5 k6 e1 e2 e3 HSTa HQ HAq HBKq HBK0
          obtain ⟨nx, hnx⟩ : ∃ nx, nx = n + 1 := ⟨_, rfl⟩
          have HL2 : Hid (Lx.length = nx) := hid_ (by rw [HLn.out, hnx])
          have hnx64 : nx ≤ 65 := by omega
          rw [← hnx]
          clear hnx HLn HLx
          have HZF := hid_ (fun W => rzfrom_any z W hz64.len)
          have HZS := hid_ (show (bv (zfrom z 64)).size = 64 by rw [bv_size, zfrom_len])
          have HZ6 := hid_ (show (bv z).size = 64 by rw [bv_size]; exact hz64.len)
          have HZO := hid_ (bv_one (zfrom z 64))
          have HTK : Hid (∀ W, Calls Tryz.prog 105 #[.int .i64 before, .agg (bv (zfrom z 64))] W fun e w' => ∃ D d, e = .returned (.tuple #[.slice D (tokensZ before z).length d, .int .i64 0]) ∧ SL w' 3 (.slice D (tokensZ before z).length d) (tokensZ before z).length (toks (tokensZ before z)) ∧ Ext W w') := hid_ (fun W => by
           have hzz := zto_zfrom z hz64.len
           have h0 : z.getD 0 0 ∈ z := by
            have : 0 < z.length := by rw [hz64.len]; omega
            simp [List.getD_eq_getElem?_getD, this]
           have hl := hz64.lo _ h0
           have hal : allIn (zfrom z 64) (-2047) 2047 = true := allIn_iff.2 (zfrom_all z (fun x => -2047 ≤ x ∧ x ≤ 2047) (by omega) hz64.lo 64)
           have := rtokens_in before (zfrom z 64) W (zfrom_len z 64) hbf1 hbf2 hal (by rw [hzz]; exact hl.1) (by rw [hzz]; exact hl.2)
           rw [hzz] at this
           exact this.mono fun e w' ⟨D, d, a1, a2, a4⟩ => ⟨D, d, a1, a2, a4⟩)
          generalize hTZ : tokensZ before z = TZ at *
          have HTZ := hid_ hTZ
          generalize hzx : zfrom z 64 = zx at *
          have HZX := hid_ hzx
          clear hTZ hzx hz64
          obtain ⟨nt, hnt⟩ : ∃ nt, TZ.length = nt := ⟨_, rfl⟩
          have HNT := hid_ hnt
          rw [hnt] at HTK
          clear hnt
          by_cases heq : TZ = Lx
          ·have HEQ := hid_ heq
           have HSQ : Hid (∀ D d W, SL W 3 (.slice D nt d) nt (toks TZ) → SL W 3 (.slice A' nx c') nx (toks Lx) → Calls Tryz.prog 194 #[.slice D nt d, .slice A' nx c'] W fun e w' => e = .returned (.bool true) ∧ Ext W w') := hid_ (fun D d W h1 h2 => by
            have := eqTok_any (.slice D nt d) (.slice A' nx c') TZ Lx W (by rw [HNT.out]; exact h1) (by rw [HL2.out]; exact h2)
            rwa [decide_eq_true HEQ.out] at this)
           clear heq
           go_wp2_with (first
            | ((with_reducible apply gS 110); refine wLdB rfl 33 (.tmp 8) rfl gb rfl hF7.b _ Tryz.underlying33 rfl 64 size48 HZ6.out ?_)
            | (go_at_call 193; (with_reducible refine (HZF.out _).mono ?_); rintro e w8 ⟨rfl, hx8⟩; have hF8 := hF7.ext C hx8)
            | ((with_reducible apply gS 13); refine wAlo' rfl (some 13) rfl 33 rfl _ HAL.out ?_; intro w9 g13 hb9 hx9 hg9)
            | ((with_reducible apply gT 13 111); refine wStB rfl 33 (.tmp 13) (.tmp 111) rfl _ _ rfl rfl hb9 64 size48 HZS.out hz0.out HZO.out ?_; intro w10 hb10' hg10; have hF10' := hF8.made C hx9 hg9 hg10)
            | ((with_reducible apply gS 114); refine wLdB rfl 33 (.tmp 13) rfl g13 rfl hb10' _ Tryz.underlying33 rfl 64 size48 HZS.out ?_)
            | (go_at_call 105; (with_reducible refine (HTK.out _).mono ?_); rintro e w10 ⟨D, d', rfl, hs10, hx10⟩; have hF10 := hF10'.ext C hx10; have hb10 := hb10'.ext hx10; have hr10 := own_sl hF10.row; rw [HL2.out] at hr10)
            | (go_at_call 194; (with_reducible refine (HSQ.out _ _ _ hs10 hr10).mono ?_); rintro e w11 ⟨rfl, hx11⟩; have hF11 := hF10.ext C hx11; have hrr := hF11.r; rw [HCZ.out] at hrr)
            | ((with_reducible apply gS 123); refine wLdB rfl 33 (.tmp 13) rfl g13 rfl (hb10.ext hx11) _ Tryz.underlying33 rfl 64 size48 HZS.out ?_)
            | ((with_reducible apply gT 4 123); refine wStB rfl 33 (.tmp 4) (.tmp 123) rfl _ _ rfl rfl hrr 64 size48 HZS.out HS.out HZO.out ?_; intro w12 hb12 hg12))
           obtain ⟨hi12, hu12, hs12⟩ := hF11.fin C blkT_ne hg12 HBs.out
           refine ret_cell_tmp2 rfl rfl _ rfl hb12 _ Tryz.underlying33 rfl 64 size48 HZS.out ?_
           exact blkIs_good (HFx.out.trans ((finZ_good (HTZ.out.trans HEQ.out)).trans (by rw [HZX.out]))) HL2.out hi12 hu12
          ·have HEQ := hid_ heq
           have HSQ : Hid (∀ D d W, SL W 3 (.slice D nt d) nt (toks TZ) → SL W 3 (.slice A' nx c') nx (toks Lx) → Calls Tryz.prog 194 #[.slice D nt d, .slice A' nx c'] W fun e w' => e = .returned (.bool false) ∧ Ext W w') := hid_ (fun D d W h1 h2 => by
            have := eqTok_any (.slice D nt d) (.slice A' nx c') TZ Lx W (by rw [HNT.out]; exact h1) (by rw [HL2.out]; exact h2)
            rwa [decide_eq_false HEQ.out] at this)
           clear heq
           go_wp2_with (first
            | ((with_reducible apply gS 110); refine wLdB rfl 33 (.tmp 8) rfl gb rfl hF7.b _ Tryz.underlying33 rfl 64 size48 HZ6.out ?_)
            | (go_at_call 193; (with_reducible refine (HZF.out _).mono ?_); rintro e w8 ⟨rfl, hx8⟩; have hF8 := hF7.ext C hx8)
            | ((with_reducible apply gS 13); refine wAlo' rfl (some 13) rfl 33 rfl _ HAL.out ?_; intro w9 g13 hb9 hx9 hg9)
            | ((with_reducible apply gT 13 111); refine wStB rfl 33 (.tmp 13) (.tmp 111) rfl _ _ rfl rfl hb9 64 size48 HZS.out hz0.out HZO.out ?_; intro w10 hb10' hg10; have hF10' := hF8.made C hx9 hg9 hg10)
            | ((with_reducible apply gS 114); refine wLdB rfl 33 (.tmp 13) rfl g13 rfl hb10' _ Tryz.underlying33 rfl 64 size48 HZS.out ?_)
            | (go_at_call 105; (with_reducible refine (HTK.out _).mono ?_); rintro e w10 ⟨D, d', rfl, hs10, hx10⟩; have hF10 := hF10'.ext C hx10; have hb10 := hb10'.ext hx10; have hr10 := own_sl hF10.row; rw [HL2.out] at hr10)
            | (go_at_call 194; (with_reducible refine (HSQ.out _ _ _ hs10 hr10).mono ?_); rintro e w11 ⟨rfl, hx11⟩; have hF11 := hF10.ext C hx11; have hrr := hF11.r; rw [HCZ.out] at hrr)
            | ((with_reducible apply gS 122); refine wpList_build0 rfl 33 rfl _ HBT.out ?_)
            | ((with_reducible apply gT 4 122); refine wStB rfl 33 (.tmp 4) (.tmp 122) rfl _ _ rfl rfl hrr 64 size48 HS.out HS.out HO.out ?_; intro w12 hb12 hg12))
           obtain ⟨hi12, hu12, -⟩ := hF11.fin C blkT_ne hg12 HBs.out
           refine ret_cell_tmp2 rfl rfl _ rfl hb12 _ Tryz.underlying33 rfl 64 size48 HS.out ?_
           exact blkIs_err (HFx.out.trans (finZ_ne (by rw [HTZ.out]; exact HEQ.out))) HCZ.out hi12 hu12
         ·have hm0 : ((m : Int) == 0) = false := by simp; omega
          obtain ⟨d, hd⟩ : ∃ d, d = m / 16 := ⟨_, rfl⟩
          have hd15 : d ≤ 15 := by omega
          have HD : Hid (((m : Int) / 16).toNat = d) := hid_ (by omega)
          have hqu : ∀ W, (binOp .quo 3 (.int .i64 (m : Int)) (.int .i64 16)).run Tryz.prog W = .ok (.int .i64 (d : Int)) W := fun W => by rw [hd]; exact run_quoN m 16 (by omega) (by omega) W
          clear hd
          by_cases hf : 64 < k + d + 1
          ·have HGE : Hid (G = (4, List.replicate 64 0, [], q')) := hid_ (by rw [HSTa.out, goB_far hlt HQ.out HOK.out (by simp; omega) (by simp only; rw [HD.out]; omega), finZ_err (by omega)])
           go_wp2_with (first
            | ((with_reducible apply gS 100); refine wl_run rfl (.int .i64 ((d : Nat) : Int)) (ex_bin rfl rfl rfl hqu) ?_)
            | ((with_reducible apply gS 105); refine wpList_build0 rfl 33 rfl _ HBT.out ?_)
            | ((with_reducible apply gT 4 105); refine wStB rfl 33 (.tmp 4) (.tmp 105) rfl _ _ rfl rfl hr7 64 size48 HS.out HS.out HO.out ?_; intro w9 hb9 hg9))
           obtain ⟨hi9, hu9, -⟩ := hF7.fin C blkT_ne hg9 HBs.out
           refine ret_cell_tmp2 rfl rfl _ rfl hb9 _ Tryz.underlying33 rfl 64 size48 HS.out ?_
           exact blkIs_err HGE.out HCZ.out hi9 hu9
          ·have HGE : Hid (G = finZ before (goB (next false) (k + d + 1) (z.set (k + d) b1) Lx q')) := hid_ (by rw [HSTa.out, goB_step hlt HQ.out HOK.out (by simp; omega) (by simp only; rw [HD.out]; omega), HBK0.out, HLx.out]; simp only; rw [HD.out])
           have hz' : Half (z.set (k + d) b1) (k + d + 1) := hz.set (by omega) (by omega) e1 e2
           go_wp2_with (first
            | ((with_reducible apply gS 100); refine wl_run rfl (.int .i64 ((d : Nat) : Int)) (ex_bin rfl rfl rfl hqu) ?_)
            | ((with_reducible apply gS 107); refine wl_run rfl (.int .i64 ((k + d : Nat) : Int)) (ex_bin rfl rfl rfl (fun W => run_subI _ _ _ (by rw [IntWalk.i64_in _ (by omega)]; omega) W)) ?_)
            | ((with_reducible apply gT 109 108); refine wl_storeI rfl (.tmp 109) (.tmp 108) rfl gb (k + d) b1 rfl rfl hF7.b (by rw [bv_size, HZL.out]; omega) ?_))
           simp only [Act.put]
           go_roundw
           case rel => exact ⟨k + d + 1, z.set (k + d) b1, Lx, q', A', c', by omega, vint (by omega), by rw [HLn.out], by rw [HLn.out]; omega, hz', hid_ (.inr ⟨by omega, HGE.out⟩), hF7.set C blkT_ne _ _⟩
           case measure => simp [intOf]; omega
     ·have k1' : (b2 != 0) = true := by simpa using kb
      have HGE : Hid (G = (4, List.replicate 64 0, [], q')) := hid_ (by rw [HSTa.out, goB_bad hlt HQ.out (by rw [HT.out]; exact decide_eq_false (fun h => kb h.1)), finZ_err (by omega)])
      have HOB : True := trivial
      clear kb HT1 HT HSTa HQ
      go_wp2_with (first
       | ((with_reducible apply gS 22); refine wl_enter (by rfl) (run_callv (.tmp 19) _ _ rfl rfl hgo (#[.bool false] ++ cap) (by simp [Act.eval])) ?_; (with_reducible refine (HAq.out _ hF.inv hF.size).mono ?_); rintro e w2 ⟨rfl, hi2, hu2⟩; refine ⟨_, rfl, ?_⟩; have hF2 := hF.asked C hu2 hi2)
       | ((with_reducible apply gS 10); refine wAlo' rfl (some 10) rfl 149 rfl _ zeroTok ?_; intro w3 g14 hb3 hx3 hg3)
       | ((with_reducible apply gT 10 23); refine wStB rfl 149 (.tmp 10) (.tmp 23) rfl _ _ rfl rfl hb3 3 sizeTok rfl rfl (three_one _ _ _) ?_; intro w4 hb4 hg4; have hF4 := hF2.made C hx3 hg3 hg4)
       | ((with_reducible apply gS 30); refine wLdB rfl 149 (.tmp 10) rfl g14 rfl hb4 _ Tryz.underlying149 rfl 3 sizeTok rfl ?_)
       | ((with_reducible apply gS 31); refine wLit1 rfl 145 149 (.tmp 30) rfl (some 31) rfl Tryz.underlying145 3 sizeTok tok_isS _ rfl rfl (by omega) (by omega) ?_; intro w5 g5 hb5 hx5 hg5; have hs5 : SL w5 3 (.slice (some ⟨g5, 0, none⟩) 1 1) 1 [.int .i64 t1, .int .i64 t2, .int .i64 t3] := Blk.sl (cs := #[.int .i64 t1, .int .i64 t2, .int .i64 t3]) hb5 rfl (by omega) (by omega); have hF5 := hF4.ext C hx5; have hrow5 := hF5.row; rw [HLN.out] at hrow5)
       | (at_builtin; go_must (refine wApf elt_tok rfl (.tmp 29) (.tmp 31) rfl B _ n (toks L) rfl hrow5 _ 1 [.int .i64 t1, .int .i64 t2, .int .i64 t3] rfl hs5 (tok_one _ _ _) (by omega) (by omega) hF5.size ?_); intro A' c' w6 hown6 hgr6 hor6; have hb6 := (upd_grown hgr6).blk (hb4.ext hx5) (fun k => (hF2.fresh (g := g14) hg3).2.2.2 _ (by rw [HLN.out]; exact k) rfl); obtain ⟨p0, p1, p2⟩ := blk_three hb6; have hF6 : From B S Inv w w6 gb gr 33 z A' c' (L ++ [(t1, t2, t3)]) q' := hF5.app C blkT_ne (by rw [HLN.out]; exact hown6) (by rw [HLN.out]; exact hgr6))
       | (go_at_call 192; (with_reducible refine (HBKq.out _).mono ?_); rintro e w7 ⟨rfl, hx7⟩; obtain ⟨q0, q1, q2⟩ := blk_three (hb6.ext hx7); have hF7 := hF6.ext C hx7; have hr7 := hF7.r; rw [HCZ.out] at hr7)
       | (go_at_call 54; (with_reducible refine (HOB.out _).mono ?_); rintro e w' ⟨rfl, rfl⟩)
       | ((with_reducible apply gS 43); refine wpList_build0 rfl 33 rfl _ HBT.out ?_)
       | ((with_reducible apply gT 4 43); refine wStB rfl 33 (.tmp 4) (.tmp 43) rfl _ _ rfl rfl hr7 64 size48 HS.out HS.out HO.out ?_; intro w9 hb9 hg9))
      obtain ⟨hi9, hu9, -⟩ := hF7.fin C blkT_ne hg9 HBs.out
      refine ret_cell_tmp2 rfl rfl _ rfl hb9 _ Tryz.underlying33 rfl 64 size48 HS.out ?_
      exact blkIs_err HGE.out HCZ.out hi9 hu9
    ·have hxb : (x != 0) = true := by simpa using hx0
     have HGE : Hid (G = (x, List.replicate 64 0, [], q')) := hid_ (by rw [HSTa.out, goB_err hlt HQ.out hx0, finZ_err hx0])
     clear hx0 HSTa HQ
     go_wp2_with (first
      | ((with_reducible apply gS 22); refine wl_enter (by rfl) (run_callv (.tmp 19) _ _ rfl rfl hgo (#[.bool false] ++ cap) (by simp [Act.eval])) ?_; (with_reducible refine (HAq.out _ hF.inv hF.size).mono ?_); rintro e w2 ⟨rfl, hi2, hu2⟩; refine ⟨_, rfl, ?_⟩; have hF2 := hF.asked C hu2 hi2)
      | ((with_reducible apply gS 10); refine wAlo' rfl (some 10) rfl 149 rfl _ zeroTok ?_; intro w3 g14 hb3 hx3 hg3)
      | ((with_reducible apply gT 10 23); refine wStB rfl 149 (.tmp 10) (.tmp 23) rfl _ _ rfl rfl hb3 3 sizeTok rfl rfl (three_one _ _ _) ?_; intro w4 hb4 hg4; have hF4 := hF2.made C hx3 hg3 hg4; have hr4 := hF4.r; rw [HCZ.out] at hr4)
      | ((with_reducible apply gS 27); refine wpList_build0 rfl 33 rfl _ HBT.out ?_)
      | ((with_reducible apply gT 4 27); refine wStB rfl 33 (.tmp 4) (.tmp 27) rfl _ _ rfl rfl hr4 64 size48 HS.out HS.out HO.out ?_; intro w9 hb9 hg9))
     obtain ⟨hi9, hu9, -⟩ := hF4.fin C blkT_ne hg9 HBs.out
     refine ret_cell_tmp2 rfl rfl _ rfl hb9 _ Tryz.underlying33 rfl 64 size48 HS.out ?_
     exact blkIs_err HGE.out HCZ.out hi9 hu9
  ·have HFx : Hid (G = finZ before (0, z, L, q)) := hid_ (by
    rcases HST.out with ⟨h1, -⟩ | ⟨-, h2⟩
    ·omega
    ·rw [h2, goB_done (by omega)])
   have hz64 : Half z k := hz
   have hnx64 : n ≤ 65 := by omega
   clear HST HA2 HG
   have HZF := hid_ (fun W => rzfrom_any z W hz64.len)
   have HZS := hid_ (show (bv (zfrom z 64)).size = 64 by rw [bv_size, zfrom_len])
   have HZ6 := hid_ (show (bv z).size = 64 by rw [bv_size]; exact hz64.len)
   have HZO := hid_ (bv_one (zfrom z 64))
   have HTK : Hid (∀ W, Calls Tryz.prog 105 #[.int .i64 before, .agg (bv (zfrom z 64))] W fun e w' => ∃ D d, e = .returned (.tuple #[.slice D (tokensZ before z).length d, .int .i64 0]) ∧ SL w' 3 (.slice D (tokensZ before z).length d) (tokensZ before z).length (toks (tokensZ before z)) ∧ Ext W w') := hid_ (fun W => by
    have hzz := zto_zfrom z hz64.len
    have h0 : z.getD 0 0 ∈ z := by
     have : 0 < z.length := by rw [hz64.len]; omega
     simp [List.getD_eq_getElem?_getD, this]
    have hl := hz64.lo _ h0
    have hal : allIn (zfrom z 64) (-2047) 2047 = true := allIn_iff.2 (zfrom_all z (fun x => -2047 ≤ x ∧ x ≤ 2047) (by omega) hz64.lo 64)
    have := rtokens_in before (zfrom z 64) W (zfrom_len z 64) hbf1 hbf2 hal (by rw [hzz]; exact hl.1) (by rw [hzz]; exact hl.2)
    rw [hzz] at this
    exact this.mono fun e w' ⟨D, d, a1, a2, a4⟩ => ⟨D, d, a1, a2, a4⟩)
   generalize hTZ : tokensZ before z = TZ at *
   have HTZ := hid_ hTZ
   generalize hzx : zfrom z 64 = zx at *
   have HZX := hid_ hzx
   clear hTZ hzx hz64
   obtain ⟨nt, hnt⟩ : ∃ nt, TZ.length = nt := ⟨_, rfl⟩
   have HNT := hid_ hnt
   rw [hnt] at HTK
   clear hnt
   by_cases heq : TZ = L
   ·have HEQ := hid_ heq
    have HSQ : Hid (∀ D d W, SL W 3 (.slice D nt d) nt (toks TZ) → SL W 3 (.slice A n c) n (toks L) → Calls Tryz.prog 194 #[.slice D nt d, .slice A n c] W fun e w' => e = .returned (.bool true) ∧ Ext W w') := hid_ (fun D d W h1 h2 => by
     have := eqTok_any (.slice D nt d) (.slice A n c) TZ L W (by rw [HNT.out]; exact h1) (by rw [HLN.out]; exact h2)
     rwa [decide_eq_true HEQ.out] at this)
    clear heq
    go_wp2_with (first
     | ((with_reducible apply gS 110); refine wLdB rfl 33 (.tmp 8) rfl gb rfl hF.b _ Tryz.underlying33 rfl 64 size48 HZ6.out ?_)
     | (go_at_call 193; (with_reducible refine (HZF.out _).mono ?_); rintro e w8 ⟨rfl, hx8⟩; have hF8 := hF.ext C hx8)
     | ((with_reducible apply gS 13); refine wAlo' rfl (some 13) rfl 33 rfl _ HAL.out ?_; intro w9 g13 hb9 hx9 hg9)
     | ((with_reducible apply gT 13 111); refine wStB rfl 33 (.tmp 13) (.tmp 111) rfl _ _ rfl rfl hb9 64 size48 HZS.out hz0.out HZO.out ?_; intro w10 hb10' hg10; have hF10' := hF8.made C hx9 hg9 hg10)
     | ((with_reducible apply gS 114); refine wLdB rfl 33 (.tmp 13) rfl g13 rfl hb10' _ Tryz.underlying33 rfl 64 size48 HZS.out ?_)
     | (go_at_call 105; (with_reducible refine (HTK.out _).mono ?_); rintro e w10 ⟨D, d', rfl, hs10, hx10⟩; have hF10 := hF10'.ext C hx10; have hb10 := hb10'.ext hx10; have hr10 := own_sl hF10.row; rw [HLN.out] at hr10)
     | (go_at_call 194; (with_reducible refine (HSQ.out _ _ _ hs10 hr10).mono ?_); rintro e w11 ⟨rfl, hx11⟩; have hF11 := hF10.ext C hx11; have hrr := hF11.r; rw [HCZ.out] at hrr)
     | ((with_reducible apply gS 123); refine wLdB rfl 33 (.tmp 13) rfl g13 rfl (hb10.ext hx11) _ Tryz.underlying33 rfl 64 size48 HZS.out ?_)
     | ((with_reducible apply gT 4 123); refine wStB rfl 33 (.tmp 4) (.tmp 123) rfl _ _ rfl rfl hrr 64 size48 HZS.out HS.out HZO.out ?_; intro w12 hb12 hg12))
    obtain ⟨hi12, hu12, hs12⟩ := hF11.fin C blkT_ne hg12 HBs.out
    refine ret_cell_tmp2 rfl rfl _ rfl hb12 _ Tryz.underlying33 rfl 64 size48 HZS.out ?_
    exact blkIs_good (HFx.out.trans ((finZ_good (HTZ.out.trans HEQ.out)).trans (by rw [HZX.out]))) HLN.out hi12 hu12
   ·have HEQ := hid_ heq
    have HSQ : Hid (∀ D d W, SL W 3 (.slice D nt d) nt (toks TZ) → SL W 3 (.slice A n c) n (toks L) → Calls Tryz.prog 194 #[.slice D nt d, .slice A n c] W fun e w' => e = .returned (.bool false) ∧ Ext W w') := hid_ (fun D d W h1 h2 => by
     have := eqTok_any (.slice D nt d) (.slice A n c) TZ L W (by rw [HNT.out]; exact h1) (by rw [HLN.out]; exact h2)
     rwa [decide_eq_false HEQ.out] at this)
    clear heq
    go_wp2_with (first
     | ((with_reducible apply gS 110); refine wLdB rfl 33 (.tmp 8) rfl gb rfl hF.b _ Tryz.underlying33 rfl 64 size48 HZ6.out ?_)
     | (go_at_call 193; (with_reducible refine (HZF.out _).mono ?_); rintro e w8 ⟨rfl, hx8⟩; have hF8 := hF.ext C hx8)
     | ((with_reducible apply gS 13); refine wAlo' rfl (some 13) rfl 33 rfl _ HAL.out ?_; intro w9 g13 hb9 hx9 hg9)
     | ((with_reducible apply gT 13 111); refine wStB rfl 33 (.tmp 13) (.tmp 111) rfl _ _ rfl rfl hb9 64 size48 HZS.out hz0.out HZO.out ?_; intro w10 hb10' hg10; have hF10' := hF8.made C hx9 hg9 hg10)
     | ((with_reducible apply gS 114); refine wLdB rfl 33 (.tmp 13) rfl g13 rfl hb10' _ Tryz.underlying33 rfl 64 size48 HZS.out ?_)
     | (go_at_call 105; (with_reducible refine (HTK.out _).mono ?_); rintro e w10 ⟨D, d', rfl, hs10, hx10⟩; have hF10 := hF10'.ext C hx10; have hb10 := hb10'.ext hx10; have hr10 := own_sl hF10.row; rw [HLN.out] at hr10)
     | (go_at_call 194; (with_reducible refine (HSQ.out _ _ _ hs10 hr10).mono ?_); rintro e w11 ⟨rfl, hx11⟩; have hF11 := hF10.ext C hx11; have hrr := hF11.r; rw [HCZ.out] at hrr)
     | ((with_reducible apply gS 122); refine wpList_build0 rfl 33 rfl _ HBT.out ?_)
     | ((with_reducible apply gT 4 122); refine wStB rfl 33 (.tmp 4) (.tmp 122) rfl _ _ rfl rfl hrr 64 size48 HS.out HS.out HO.out ?_; intro w12 hb12 hg12))
    obtain ⟨hi12, hu12, -⟩ := hF11.fin C blkT_ne hg12 HBs.out
    refine ret_cell_tmp2 rfl rfl _ rfl hb12 _ Tryz.underlying33 rfl 64 size48 HS.out ?_
    exact blkIs_err (HFx.out.trans (finZ_ne (by rw [HTZ.out]; exact HEQ.out))) HCZ.out hi12 hu12
end
end
section
section
variable {σ : Type} {f : FuncId} {B : Nat} {S : Nat → Prop} {Inv : World → σ → Prop} {next : Bool → σ → Tok × Int × σ}
theorem from_any (before : Int) (hb1 : -2047 ≤ before) (hb2 : before ≤ 2047) {ty : TypeId} {v recv : Value} (hm : Meth Tryz.prog ty v "Token" f recv) (C : Src f #[recv] #[] B S Inv next) (w : World) (s : σ) (hI : Inv w s) (hB : B = w.heap.size) :
 Calls Tryz.prog 162 #[.int .i64 before, .iface ty v] w (FromIs S Inv w (blkZ next before s)) := by
 rcases hq : next true s with ⟨t, x, s'⟩
 by_cases hx : x = 0
 ·subst hx
  cases hok : tokOk1 before t with
  | false => rw [blkZ_bad hq hok]; exact from_bad before hb1 hb2 hm C w s hI hB hq hok
  | true => exact from_go before hb1 hb2 hm C w s hI hB hq hok
 ·rw [blkZ_err hq hx]; exact from_err before hm C w s hI hB hq hx
end
attribute [local irreducible] zfrom tokensZ accT backR
theorem goB_len {σ : Type} (next : σ → Tok × Int × σ) : ∀ (n i : Nat) (z : List Int) (all : List Tok) (s : σ), 64 - i = n → i ≤ 64 → z.length = 64 → all.length ≤ i → (goB next i z all s).2.1.length = 64 ∧ (goB next i z all s).2.2.1.length ≤ 64 := by
 intro n
 induction n using Nat.strongRecOn with
 | ind n ih =>
   intro i z all s hn hi hz hl
   by_cases hlt : i < 64
   ·rcases hq : next s with ⟨t, e, s'⟩
    by_cases he : e = 0
    ·subst he
     cases ht : tokOk t with
     | false => rw [goB_bad hlt hq ht]; exact ⟨hz, by dsimp only; omega⟩
     | true =>
       by_cases h1 : t.1 = 0
       ·rw [goB_end hlt hq ht h1]; exact ⟨hz, by dsimp only; simp; omega⟩
       ·by_cases hf : 64 < i + (t.1 / 16).toNat + 1
        ·rw [goB_far hlt hq ht h1 hf]; exact ⟨hz, by dsimp only; omega⟩
        ·rw [goB_step hlt hq ht h1 hf]
         exact ih _ (by omega) _ _ _ _ rfl (by omega) (by simpa using hz) (by simp; omega)
    ·rw [goB_err hlt hq he]; exact ⟨hz, by dsimp only; omega⟩
   ·rw [goB_done hlt]; exact ⟨hz, by dsimp only; omega⟩
theorem blkZ_len {σ : Type} (next : Bool → σ → Tok × Int × σ) (before : Int) (s : σ) : (blkZ next before s).2.1.length = 64 ∧ (blkZ next before s).2.2.1.length ≤ 64 := by
 rcases hq : next true s with ⟨t, x, s'⟩
 by_cases hx : x = 0
 ·subst hx
  cases hok : tokOk1 before t with
  | false => rw [blkZ_bad hq hok]; exact ⟨by simp, by simp⟩
  | true =>
    rw [blkZ_fin hq hok]
    have h := goB_len (next false) 63 1 ((List.replicate 64 0).set 0 (before + (backR t.2.1 t.2.2).1)) [t] s' (by omega) (by omega) (by simp) (by simp)
    generalize goB (next false) 1 ((List.replicate 64 0).set 0 (before + (backR t.2.1 t.2.2).1)) [t] s' = g at *
    obtain ⟨e, z, all, q⟩ := g
    dsimp only at h
    by_cases he : e = 0
    ·subst he
     by_cases ht : tokensZ before z = all
     ·rw [finZ_good ht]; exact ⟨zfrom_len _ _, h.2⟩
     ·rw [finZ_ne ht]; exact ⟨by simp, by simp⟩
    ·rw [finZ_err he]; exact ⟨by simp, by simp⟩
 ·rw [blkZ_err hq hx]; exact ⟨by simp, by simp⟩
end
def segGo (next : Bool → Nat → Tok × Int × Nat) : Nat → Int → Nat → List Int → Int × List Int × Nat
 | 0, _, p, acc => (0, acc, p)
 | m + 1, before, p, acc => if (blkZ next before p).1 ≠ 0 then ((blkZ next before p).1, [], p) else segGo next m ((blkZ next before p).2.1.getD 0 0) (blkZ next before p).2.2.2 (acc ++ (blkZ next before p).2.1)
theorem segGo_err {next : Bool → Nat → Tok × Int × Nat} {m : Nat} {before : Int} {p : Nat} {acc : List Int} (h : (blkZ next before p).1 ≠ 0) : segGo next (m + 1) before p acc = ((blkZ next before p).1, [], p) := by rw [segGo, if_pos h]
theorem segGo_ok {next : Bool → Nat → Tok × Int × Nat} {m : Nat} {before : Int} {p : Nat} {acc : List Int} (h : (blkZ next before p).1 = 0) : segGo next (m + 1) before p acc = segGo next m ((blkZ next before p).2.1.getD 0 0) (blkZ next before p).2.2.2 (acc ++ (blkZ next before p).2.1) := by rw [segGo, if_neg (by simp [h])]
theorem segGo_same {n1 n2 : Bool → Nat → Tok × Int × Nat} (hs : ∀ b, SameN (n1 b) (n2 b)) : ∀ (m : Nat) (before : Int) (p : Nat) (acc : List Int), segGo n1 m before p acc = segGo n2 m before p acc
 | 0, _, _, _ => rfl
 | m + 1, before, p, acc => by
   obtain ⟨h1, h2, h3, h4⟩ := blkZ_same hs before p
   by_cases he : (blkZ n1 before p).1 = 0
   ·rw [segGo_ok he, segGo_ok (by rw [← h1]; exact he), segGo_same hs m, h2, h4 he]
   ·rw [segGo_err he, segGo_err (by rw [← h1]; exact he), h1]
theorem segGo_len {next : Bool → Nat → Tok × Int × Nat} : ∀ (m : Nat) (before : Int) (p : Nat) (acc : List Int) (k : Nat), acc.length = k * 64 → (segGo next m before p acc).1 = 0 → (segGo next m before p acc).2.1.length = (k + m) * 64
 | 0, _, _, acc, k, h, _ => by rw [segGo]; simpa using h
 | m + 1, before, p, acc, k, h, h0 => by
   by_cases he : (blkZ next before p).1 = 0
   ·rw [segGo_ok he] at h0 ⊢
    have := segGo_len m _ _ (acc ++ (blkZ next before p).2.1) (k + 1) (by rw [List.length_append, h, (blkZ_len next before p).1]; omega) h0
    rw [this]
    congr 1
    omega
   ·rw [segGo_err he] at h0
    exact absurd h0 he
def segFin (D : List Bool) (r : Int × List Int × Nat) : Int × List Int := if r.1 ≠ 0 then (r.1, []) else if 7 < D.length - r.2.2 ∨ false ∈ D.drop r.2.2 then (4, []) else (0, r.2.1)
theorem ones_iff (L : List Bool) : numB L = 2 ^ L.length - 1 ↔ ¬ false ∈ L := by
 rw [← numB_ones]
 constructor
 ·intro h hm
  have e : L = List.replicate L.length true := numB_inj (by simp) h
  rw [e] at hm
  have := (List.mem_replicate.1 hm).2
  cases this
 ·intro h
  have e : L = List.replicate L.length true := by
   refine List.eq_replicate_iff.2 ⟨rfl, fun b hb => ?_⟩
   cases b with
   | true => rfl
   | false => exact absurd hb h
  rw [← e]
theorem zero_iff : ∀ (L : List Bool), 0 ≤ Lib.indexByte (L.map chB) 48 ↔ false ∈ L
 | [] => by simp [Lib.indexByte]
 | b :: l => by
   have ih := zero_iff l
   have hge := Lib.indexByte_ge (l.map chB) 48
   rw [List.map_cons, Lib.indexByte]
   cases b with
   | false => simp [chB]
   | true =>
     rw [if_neg (by simp [chB])]
     by_cases h : Lib.indexByte (l.map chB) 48 = -1
     ·rw [if_pos (by simpa using h)]
      rw [h] at ih
      simp only [List.mem_cons, Bool.false_eq_true, false_or]
      rw [← ih]
     ·rw [if_neg (by simpa using h)]
      simp only [List.mem_cons, Bool.false_eq_true, false_or]
      rw [← ih]
      omega
def decR (r : Bool) (T1 T2 : List Tok) (nn : Int) (bs : Option (List Nat)) : Int × List Int :=
 if nn < 0 ∨ 400 < nn then (1, []) else match bs with
  | none => (4, [])
  | some pb => segFin (digsOf pb) (segGo (segNext r T1 T2 (digsOf pb)) nn.toNat 0 0 [])
theorem decR_same (T1 T2 : List Tok) (nn : Int) (bs : Option (List Nat)) : decR true T1 T2 nn bs = decR false T1 T2 nn bs := by
 unfold decR
 cases bs with
 | none => rfl
 | some pb => dsimp only; rw [segGo_same (n1 := segNext true T1 T2 (digsOf pb)) (n2 := segNext false T1 T2 (digsOf pb)) (fun b s => segNext_same T1 T2 (digsOf pb) b s)]
def DecIs (r : Int × List Int) (w : World) (e : Ending) (w' : World) : Prop :=
 Ext w w' ∧ if r.1 = 0 then ∃ B k d, e = .returned (.tuple #[.slice B k d, .int .i64 0]) ∧ r.2.length = k * 64 ∧ SL w' 64 (.slice B k d) k (ints r.2) ∧ (B = none → d = 0)
  else e = .returned (.tuple #[.slice none 0 0, .int .i64 r.1])
theorem segNext_wf {r : Bool} {T1 T2 : List Tok} {D : List Bool} {b : Bool} {p : Nat} (hT1 : ∀ t ∈ T1, 0 ≤ t.1 ∧ t.1 ≤ 255) (hT2 : ∀ t ∈ T2, 0 ≤ t.1 ∧ t.1 ≤ 255) (h : (segNext r T1 T2 D b p).2.1 = 0) :
 I64 (segNext r T1 T2 D b p).1.1 ∧ I64 (segNext r T1 T2 D b p).1.2.1 ∧ I64 (segNext r T1 T2 D b p).1.2.2 := by
 by_cases h0 : (symZ (if b then T1 else T2) D p).2.2 ≠ 0
 ·rw [segNext_sym h0] at h
  exact absurd h h0
 ·obtain ⟨s, p', e⟩ : ∃ s p', symZ (if b then T1 else T2) D p = (s, p', 0) := ⟨_, _, Prod.ext rfl (Prod.ext rfl (by simpa using h0))⟩
  have hr := symZ_mem (T := if b then T1 else T2) (D := D) (p := p) (by cases b <;> assumption)
  rw [e] at hr
  dsimp only at hr
  by_cases hb : 12 < (if b then s else s % 16) ∨ (b = false ∧ 11 < (if b then s else s % 16))
  ·rw [segNext_wide e rfl hb] at h; cases h
  ·by_cases hl : D.length < p' + (if b then s else s % 16).toNat
   ·rw [segNext_short e rfl hb hl] at h; cases h
   ·rw [segNext_good e rfl hb hl]
    have h12 : (if b then s else s % 16) ≤ 12 := Int.not_lt.1 fun k => hb (.inl k)
    have h00 : 0 ≤ (if b then s else s % 16) := by cases b <;> simp <;> omega
    have hn := numB_take_lt (D.drop p') (if b then s else s % 16).toNat 12 (by omega)
    have h4 : (2 : Nat) ^ 12 = 4096 := by decide
    rw [h4] at hn
    unfold I64
    dsimp only
    refine ⟨by omega, by omega, by omega⟩
end Go.Proofs.YtkggcjdlpendfaaGreatDoor
