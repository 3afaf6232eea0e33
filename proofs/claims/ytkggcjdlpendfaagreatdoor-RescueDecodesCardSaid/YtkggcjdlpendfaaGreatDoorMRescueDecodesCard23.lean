/- Contracts for the law RescueDecodesCard, part 23: what the functions that it reaches answer, for all arguments that the theorems name. -/
import Derived.Test.YtkggcjdlpendfaaGreatDoorMRescueDecodesCard16
import Derived.Test.YtkggcjdlpendfaaGreatDoorMRescueDecodesCard22
import Derived.Test.YtkggcjdlpendfaaGreatDoorMRescueDecodesCard19
import Derived.Test.YtkggcjdlpendfaaGreatDoorMRescueDecodesCard17
namespace Go.Proofs.YtkggcjdlpendfaaGreatDoor
set_option linter.unusedVariables false
set_option linter.unusedSimpArgs false
open Go.RowKit
section
structure DecIn (gk gr gc1 gc2 : Nat) (T1 T2 : List Tok) (A : Option Addr) (n c : Nat) (bs : List Nat) (W0 W : World) (p : Nat) : Prop where
 k : Blk W0 gk 236 #[.pointer (some ⟨gc1, 0, none⟩), .pointer (some ⟨gc2, 0, none⟩)]
 c1 : CoderS W0 gc1 T1
 c2 : CoderS W0 gc2 T2
 size : W0.heap.size = gr
 b : Ext W0 W
 r : RdS W gr A n c p bs
section
variable {gk gr gc1 gc2 : Nat} {T1 T2 : List Tok} {A : Option Addr} {n c : Nat} {bs : List Nat} {W0 W W' : World} {p p' : Nat}
theorem DecIn.lt (h : DecIn gk gr gc1 gc2 T1 T2 A n c bs W0 W p) : gr < W.heap.size := h.r.1.lt
theorem DecIn.ext (h : DecIn gk gr gc1 gc2 T1 T2 A n c bs W0 W p) (hx : Ext W W') : DecIn gk gr gc1 gc2 T1 T2 A n c bs W0 W' p :=
 ⟨h.k, h.c1, h.c2, h.size, h.b.trans hx, h.r.ext hx⟩
theorem DecIn.keep (h : DecIn gk gr gc1 gc2 T1 T2 A n c bs W0 W p) {B : Nat} (hB : gr < B) (hu : Upd (fun b => B ≤ b) W W') : DecIn gk gr gc1 gc2 T1 T2 A n c bs W0 W' p :=
 ⟨h.k, h.c1, h.c2, h.size, hu.ext h.b (fun x hx => by have := h.size; omega), h.r.upd hu (fun x hx => by omega)⟩
theorem DecIn.moved (h : DecIn gk gr gc1 gc2 T1 T2 A n c bs W0 W p) (hu : Upd (fun x => x = gr) W W') (hr : RdS W' gr A n c p' bs) : DecIn gk gr gc1 gc2 T1 T2 A n c bs W0 W' p' :=
 ⟨h.k, h.c1, h.c2, h.size, hu.ext h.b (fun x hx => by have := h.size; omega), hr⟩
end
theorem run_loadR (W : World) (p q : Addr) (h : W.cell? p = some (.pointer (some q))) : (Instr.loadAt 211 (.pointer (some p))).run Tryz.prog W = .ok (.pointer (some q)) W := by
 go_simp
theorem ex_loadR {o : Oper} {a : Act} {x : Operand} (ho : o.op = .load 211 x) {p q : Addr} (hx : a.eval x = .pointer (some p)) {w : World} (h : w.cell? p = some (.pointer (some q))) : (execOp a.eval o).run Tryz.prog w = .ok (.value (.pointer (some q))) w := by
 simp [execOp, ho, hx, run_loadR w p q h]
theorem goesOf : Goes Tryz.prog 154 := ⟨_, Tryz.func154, by kernel_rfl, by kernel_rfl⟩
theorem goesGet : Goes Tryz.prog 243 := ⟨_, Tryz.func243, by kernel_rfl, by kernel_rfl⟩
theorem builtTok2 (x y : Int) : Tryz.prog.built 149 [(0, .int .i64 x), (1, .int .i64 y)] = some #[.int .i64 x, .int .i64 y, .int .i64 0] := by
 show _ = _
 kernel_rfl
attribute [local irreducible] digsOf numB symZ segNext
set_option maxRecDepth 20000 in
set_option maxHeartbeats 8000000 in
theorem segTok_any (gk gr gc1 gc2 : Nat) (T1 T2 : List Tok) (A : Option Addr) (n c : Nat) (bs : List Nat) (W0 : World) (hG : ∀ (b : Bool) p, p ≤ (digsOf bs).length → getGo (if b then T1 else T2) (digsOf bs) p 16 1 = symZ (if b then T1 else T2) (digsOf bs) p)
 (hT1 : ∀ t ∈ T1, 0 ≤ t.1 ∧ t.1 ≤ 255) (hT2 : ∀ t ∈ T2, 0 ≤ t.1 ∧ t.1 ≤ 255) (b : Bool) (p : Nat) (w : World) (h : DecIn gk gr gc1 gc2 T1 T2 A n c bs W0 w p) :
 Calls Tryz.prog 242 #[.agg #[.pointer (some ⟨gk, 0, none⟩), .pointer (some ⟨gr, 0, none⟩)], .bool b] w fun e w' =>
  e = .returned (.tuple #[.agg (tokv (segNext true T1 T2 (digsOf bs) b p).1).toArray, .int .i64 (segNext true T1 T2 (digsOf bs) b p).2.1]) ∧ DecIn gk gr gc1 gc2 T1 T2 A n c bs W0 w' (segNext true T1 T2 (digsOf bs) b p).2.2 ∧ Upd (fun x => x = gr) w w' := by
 have hp : p ≤ 8 * n := h.r.2.2.2.2.2.2
 have hD : (digsOf bs).length = 8 * n := by rw [digsOf_len, h.r.2.2.1]
 have hgo := hG b p (by omega)
 obtain ⟨T, hT⟩ : ∃ T, T = if b then T1 else T2 := ⟨_, rfl⟩
 obtain ⟨gc, hgc⟩ : ∃ g, g = if b then gc1 else gc2 := ⟨_, rfl⟩
 have hrng : ∀ t ∈ T, 0 ≤ t.1 ∧ t.1 ≤ 255 := by rw [hT]; cases b <;> assumption
 have hcs : CoderS W0 gc T := by
  rw [hT, hgc]
  cases b with
  | true => exact h.c1
  | false => exact h.c2
 rw [← hT] at hgo
 have hsm := symZ_mem (D := digsOf bs) (p := p) hrng
 have HGET := hid_ (fun W (hW : DecIn gk gr gc1 gc2 T1 T2 A n c bs W0 W p) => coderGet_pos gc gr T A n c p bs W0 W hcs (by rw [h.size]; exact Nat.le_refl _) (by have h9 : Below W0.heap.size W0 W := hW.b; rwa [h.size] at h9) hW.r hW.lt)
 rw [hgo] at HGET
 have HOF := hid_ (fun W (hx : Ext w W) => of_any gk gc1 gc2 b W (h.k.ext (h.b.trans hx)))
 rw [← hgc] at HOF
 have hgw := h.lt
 have HX := hid_ (fun W (hx : Ext w W) => h.ext hx)
 have HN1 : Hid ((symZ T (digsOf bs) p).2.2 ≠ 0 → segNext true T1 T2 (digsOf bs) b p = ((0, 0, 0), (symZ T (digsOf bs) p).2.2, if (symZ T (digsOf bs) p).2.2 = 3 then 8 * n else p + 16)) := hid_ (fun h0 => by rw [hT] at h0 ⊢; rw [segNext_sym h0, hD]; rfl)
 have HN2 : Hid (∀ s p' wd, symZ T (digsOf bs) p = (s, p', 0) → (if b then s else s % 16) = wd → (12 < wd ∨ (b = false ∧ 11 < wd)) → segNext true T1 T2 (digsOf bs) b p = ((0, 0, 0), 4, p')) := hid_ (fun s p' wd h1 h2 h3 => by rw [hT] at h1; rw [segNext_wide h1 h2 h3]; rfl)
 have HN3 : Hid (∀ s p' wd, symZ T (digsOf bs) p = (s, p', 0) → (if b then s else s % 16) = wd → ¬ (12 < wd ∨ (b = false ∧ 11 < wd)) → 8 * n < p' + wd.toNat → segNext true T1 T2 (digsOf bs) b p = ((0, 0, 0), 3, p')) := hid_ (fun s p' wd h1 h2 h3 h4 => by rw [hT] at h1; rw [segNext_short h1 h2 h3 (by rw [hD]; exact h4)]; rfl)
 have HN4 : Hid (∀ s p' wd, symZ T (digsOf bs) p = (s, p', 0) → (if b then s else s % 16) = wd → ¬ (12 < wd ∨ (b = false ∧ 11 < wd)) → ¬ 8 * n < p' + wd.toNat → segNext true T1 T2 (digsOf bs) b p = ((s, wd, ((numB (((digsOf bs).drop p').take wd.toNat) : Nat) : Int)), 0, p' + wd.toNat)) := hid_ (fun s p' wd h1 h2 h3 h4 => by rw [hT] at h1; rw [segNext_good h1 h2 h3 (by rw [hD]; exact h4)])
 obtain ⟨R, hR⟩ : ∃ R, segNext true T1 T2 (digsOf bs) b p = R := ⟨_, rfl⟩
 rw [hR] at HN1 HN2 HN3 HN4 ⊢
 obtain ⟨sz, hsz⟩ : ∃ sz, symZ T (digsOf bs) p = sz := ⟨_, rfl⟩
 rw [hsz] at HGET HN1 HN2 HN3 HN4 hsm
 obtain ⟨s, p', er⟩ := sz
 dsimp only at hsm HGET HN1
 obtain ⟨sn, hsn⟩ : ∃ q : Nat, s = (q : Int) := ⟨s.toNat, by omega⟩
 subst hsn
 have hsn2 : sn ≤ 255 := by omega
 clear hG hT1 hT2 hgo hT hgc hrng hcs hD hR hsz hsm h hp
 have HZT : Hid (Tryz.prog.built 149 [] = some (tokv (0, 0, 0)).toArray) := hid_ (by kernel_rfl)
 by_cases h0 : er = 0
 ·subst h0
  obtain ⟨m16, hm16⟩ : ∃ m, sn % 16 = m := ⟨_, rfl⟩
  have H27 : Hid (∀ W, (binOp .and 3 (.int .i64 (sn : Int)) (.int .i64 15)).run Tryz.prog W = .ok (.int .i64 (m16 : Int)) W) := hid_ (fun W => by rw [run_and15, ← hm16]; rfl)
  have hm2 : m16 < 16 := by omega
  have hmI : (sn : Int) % 16 = (m16 : Int) := by omega
  rw [if_pos rfl] at HGET
  clear HN1 hm16
  cases b with
  | true =>
    have HN2 := hid_ (fun h => HN2.out (sn : Int) p' (sn : Int) rfl rfl h)
    have HN3 := hid_ (fun h => HN3.out (sn : Int) p' (sn : Int) rfl rfl h)
    have HN4 := hid_ (fun h => HN4.out (sn : Int) p' (sn : Int) rfl rfl h)
    rw [Int.toNat_natCast] at HN3 HN4
    clear hmI
    by_cases hw : 12 < sn
    ·have H34 : Hid (decide ((12 : Int) < (sn : Int)) = true) := hid_ (by rw [decide_eq_true]; omega)
     rw [HN2.out (.inl (by omega))]
     clear HN2 HN3 HN4
     go_enter Tryz.func242, Tryz.ntmps242
     go_wp2_with (first
      | ((with_reducible apply gS 2); refine wBox rfl 214 (.tmp 0) rfl #[.pointer (some ⟨gk, 0, none⟩), .pointer (some ⟨gr, 0, none⟩)] rfl ?_; intro w1 g2 hb1 hx1 hg1)
      | ((with_reducible apply gS 4); refine wAlo' rfl (some 4) rfl 149 rfl _ zeroTok ?_; intro w2 g4 hb2 hx2 hg2))
     have hx12 := (hx1.trans hx2).drew
     have hI2 := HX.out _ hx12
     have hb12 := (hb1.ext hx2).drew
     have hb22 := hb2.drew
     have hne2 : ¬ g2 = gr := by omega
     have hne4 : ¬ g4 = gr := by have := hx1.size; omega
     have hI : Upd (fun x => x = gr) w2.drew w2.drew := Upd.refl _ _
     refine wp_region_oi (Upd (fun x => x = gr) w2.drew) (by kernel_rfl) ?_
     refine oi_run (k := 0) (by kernel_rfl) rfl (by rfl) (.pointer (some ⟨g2, 0, none⟩)) (fun w => by go_simp) hI ?_
     simp only [Act.put, sA, sB, sC]
     refine oi_fix (k := 1) (by kernel_rfl) rfl (by rfl) (.pointer (some ⟨gk, 0, none⟩)) (fun W hW => ex_loadK rfl rfl ((hW.blk hb12 hne2).cell 0)) hI ?_
     simp only [Act.put, sA, sB, sC]
     refine oi_run (k := 2) (by kernel_rfl) rfl (by rfl) (.bool true) (ex_move rfl rfl) hI ?_
     simp only [Act.put, sA, sB, sC]
     refine oi_run (k := 4) (by kernel_rfl) rfl (by rfl) (.pointer (some ⟨g2, 1, none⟩)) (fun w => by go_simp) hI ?_
     simp only [Act.put, sA, sB, sC]
     refine oi_fix (k := 5) (by kernel_rfl) rfl (by rfl) (.pointer (some ⟨gr, 0, none⟩)) (fun W hW => ex_loadR rfl rfl ((hW.blk hb12 hne2).cell 1)) hI ?_
     simp only [Act.put, sA, sB, sC]
     refine oi_loud (k := 3) (by kernel_rfl) rfl ?_
     refine wl_enter (by rfl) (run_callv _ _ _ rfl rfl goesOf #[.pointer (some ⟨gk, 0, none⟩), .bool true] (by simp [Act.eval])) ?_
     refine (HOF.out _ hx12).mono ?_
     rintro e w3 ⟨rfl, rfl⟩
     refine ⟨_, rfl, oi_end ⟨hI, ?_⟩⟩
     simp only [Act.put, sA, sB, sC]
     refine oi_loud (k := 6) (by kernel_rfl) rfl ?_
     refine wl_enter (by rfl) (run_callv _ _ _ rfl rfl goesGet #[.pointer (some ⟨gc, 0, none⟩), .pointer (some ⟨gr, 0, none⟩)] (by simp [Act.eval])) ?_
     refine (HGET.out _ hI2).mono ?_
     rintro e w5 ⟨rfl, hr5, hu5⟩
     refine ⟨_, rfl, oi_end ⟨hu5, ?_⟩⟩
     simp only [Act.put, sA, sB, sC]
     refine oi_run (k := 7) (by kernel_rfl) rfl (by rfl) (.tuple #[.int .i64 (sn : Int), .int .i64 0]) (ex_move rfl rfl) hu5 ?_
     simp only [Act.put, sA, sB, sC]
     refine oi_run (k := 8) (by kernel_rfl) rfl (by rfl) (.int .i64 (sn : Int)) (ex_extract rfl rfl rfl) hu5 ?_
     simp only [Act.put, sA, sB, sC]
     refine oi_run (k := 9) (by kernel_rfl) rfl (by rfl) (.int .i64 0) (ex_extract rfl rfl rfl) hu5 ?_
     simp only [Act.put, sA, sB, sC]
     refine oi_run (k := 10) (by kernel_rfl) rfl (by rfl) (.int .i64 (sn : Int)) (ex_assign rfl rfl) hu5 ?_
     simp only [Act.put, sA, sB, sC]
     refine oi_run (k := 11) (by kernel_rfl) rfl (by rfl) (.int .i64 0) (ex_assign rfl rfl) hu5 ?_
     simp only [Act.put, sA, sB, sC]
     refine oi_done (by kernel_rfl) ?_
     have hI5 := hI2.moved hu5 hr5
     have hb15 := hu5.blk hb12 hne2
     have hb25 := hu5.blk hb22 hne4
     have hu05 : Upd (fun x => x = gr) w w5 := (upd_of_ext (S := fun x => x = gr) hx12).trans hu5 (fun x hx => .inl hx)
     have hs5 := hu5.size
     have hsw := hx12.size
     have hsw1 := hx1.size
     clear hb1 hb2 hb12 hb22 hI hx12 hI2 hu5
     go_wp2_with (first
      | ((with_reducible apply gS 27); refine wl_run rfl (.int .i64 (m16 : Int)) (ex_bin rfl rfl rfl H27.out) ?_)
      | ((with_reducible apply gS 28); refine wl_run rfl (.agg #[.int .i64 (sn : Int), .int .i64 (m16 : Int), .int .i64 0]) (ex_build2 rfl rfl rfl (builtTok2 _ _)) ?_)
      | ((with_reducible apply gS 8); refine wAlo' rfl (some 8) rfl 149 rfl _ zeroTok ?_; intro w6 g8 hb6 hx6 hg8)
      | ((with_reducible apply gT 8 28); refine wStB rfl 149 (.tmp 8) (.tmp 28) rfl _ _ rfl rfl hb6 3 sizeTok rfl rfl (tok_oneA (_, _, _)) ?_; intro w7 hb7 hg7; have hx7 : Ext w5 w7 := hx6.grown hg7 hg8; have hz7 := hb7.frozen 1; have q7 : w7.cell? ⟨g8, 1, none⟩ = some (.int .i64 (m16 : Int)) := hb7.cell 1; have hb8 : Blk (w7.setCell ⟨g8, 1, none⟩ (.int .i64 (sn : Int))) g8 149 #[.int .i64 (sn : Int), .int .i64 (sn : Int), .int .i64 0] := hb7.set_ 1 (.int .i64 (sn : Int)); have hu8 : Upd (fun x => w5.heap.size ≤ x) w5 (w7.setCell ⟨g8, 1, none⟩ (.int .i64 (sn : Int))) := Upd.setCell (S := fun x => w5.heap.size ≤ x) (upd_of_ext hx7) (p := ⟨g8, 1, none⟩) hg8 _; have hI8 := hI5.keep hI5.lt hu8; have q8 : (w7.setCell ⟨g8, 1, none⟩ (.int .i64 (sn : Int))).cell? ⟨g8, 1, none⟩ = some (.int .i64 (sn : Int)) := hb8.cell 1; have hb18 := hu8.blk hb15 (fun k => by have := hb15.lt; omega); have q9 : (w7.setCell ⟨g8, 1, none⟩ (.int .i64 (sn : Int))).cell? ⟨g2, 1, none⟩ = some (.pointer (some ⟨gr, 0, none⟩)) := hb18.cell 1; have hb28 := hu8.blk hb25 (fun k => by have := hb25.lt; omega); have hu08 := hu05.trans (S := fun x => x = gr) hu8 (fun x k => .inr (by omega)))
      | ((with_reducible apply gS 34); refine wl_run rfl (.bool true) (ex_gtr rfl rfl rfl H34.out) ?_)
      | ((with_reducible apply gS 44); refine wpList_build0 rfl 149 rfl _ HZT.out ?_)
      | ((with_reducible apply gT 4 44); refine wStB rfl 149 (.tmp 4) (.tmp 44) rfl _ _ rfl rfl hb28 3 sizeTok rfl rfl (tok_oneA _) ?_; intro w9 hb9 hg9))
     have hu9 : Upd (fun x => w.heap.size ≤ x) (w7.setCell ⟨g8, 1, none⟩ (.int .i64 (sn : Int))) w9 := upd_sub (upd_grown hg9) (fun x k => by have := Option.some.inj k; omega)
     refine ret_cell_tmp rfl rfl _ rfl hb9 _ Tryz.underlying149 rfl 3 sizeTok rfl ⟨rfl, hI8.keep hgw hu9, hu08.trans hu9 (fun x k => .inr k)⟩
    ·have H34 : Hid (decide ((12 : Int) < (sn : Int)) = false) := hid_ (by rw [decide_eq_false]; omega)
     have hnb : ¬ ((12 : Int) < (sn : Int) ∨ (true = false ∧ (11 : Int) < (sn : Int))) := fun k => k.elim (fun k => by omega) (fun k => by cases k.1)
     by_cases hl : 8 * n < p' + sn
     ·rw [HN3.out hnb hl]
      have HG9 := hid_ (fun W (h : RdS W gr A n c p' bs) => get_no gr A n c p' bs sn W h hl (by omega))
      clear HN2 HN3 HN4 hnb
      go_enter Tryz.func242, Tryz.ntmps242
      go_wp2_with (first
       | ((with_reducible apply gS 2); refine wBox rfl 214 (.tmp 0) rfl #[.pointer (some ⟨gk, 0, none⟩), .pointer (some ⟨gr, 0, none⟩)] rfl ?_; intro w1 g2 hb1 hx1 hg1)
       | ((with_reducible apply gS 4); refine wAlo' rfl (some 4) rfl 149 rfl _ zeroTok ?_; intro w2 g4 hb2 hx2 hg2))
      have hx12 := (hx1.trans hx2).drew
      have hI2 := HX.out _ hx12
      have hb12 := (hb1.ext hx2).drew
      have hb22 := hb2.drew
      have hne2 : ¬ g2 = gr := by omega
      have hne4 : ¬ g4 = gr := by have := hx1.size; omega
      have hI : Upd (fun x => x = gr) w2.drew w2.drew := Upd.refl _ _
      refine wp_region_oi (Upd (fun x => x = gr) w2.drew) (by kernel_rfl) ?_
      refine oi_run (k := 0) (by kernel_rfl) rfl (by rfl) (.pointer (some ⟨g2, 0, none⟩)) (fun w => by go_simp) hI ?_
      simp only [Act.put, sA, sB, sC]
      refine oi_fix (k := 1) (by kernel_rfl) rfl (by rfl) (.pointer (some ⟨gk, 0, none⟩)) (fun W hW => ex_loadK rfl rfl ((hW.blk hb12 hne2).cell 0)) hI ?_
      simp only [Act.put, sA, sB, sC]
      refine oi_run (k := 2) (by kernel_rfl) rfl (by rfl) (.bool true) (ex_move rfl rfl) hI ?_
      simp only [Act.put, sA, sB, sC]
      refine oi_run (k := 4) (by kernel_rfl) rfl (by rfl) (.pointer (some ⟨g2, 1, none⟩)) (fun w => by go_simp) hI ?_
      simp only [Act.put, sA, sB, sC]
      refine oi_fix (k := 5) (by kernel_rfl) rfl (by rfl) (.pointer (some ⟨gr, 0, none⟩)) (fun W hW => ex_loadR rfl rfl ((hW.blk hb12 hne2).cell 1)) hI ?_
      simp only [Act.put, sA, sB, sC]
      refine oi_loud (k := 3) (by kernel_rfl) rfl ?_
      refine wl_enter (by rfl) (run_callv _ _ _ rfl rfl goesOf #[.pointer (some ⟨gk, 0, none⟩), .bool true] (by simp [Act.eval])) ?_
      refine (HOF.out _ hx12).mono ?_
      rintro e w3 ⟨rfl, rfl⟩
      refine ⟨_, rfl, oi_end ⟨hI, ?_⟩⟩
      simp only [Act.put, sA, sB, sC]
      refine oi_loud (k := 6) (by kernel_rfl) rfl ?_
      refine wl_enter (by rfl) (run_callv _ _ _ rfl rfl goesGet #[.pointer (some ⟨gc, 0, none⟩), .pointer (some ⟨gr, 0, none⟩)] (by simp [Act.eval])) ?_
      refine (HGET.out _ hI2).mono ?_
      rintro e w5 ⟨rfl, hr5, hu5⟩
      refine ⟨_, rfl, oi_end ⟨hu5, ?_⟩⟩
      simp only [Act.put, sA, sB, sC]
      refine oi_run (k := 7) (by kernel_rfl) rfl (by rfl) (.tuple #[.int .i64 (sn : Int), .int .i64 0]) (ex_move rfl rfl) hu5 ?_
      simp only [Act.put, sA, sB, sC]
      refine oi_run (k := 8) (by kernel_rfl) rfl (by rfl) (.int .i64 (sn : Int)) (ex_extract rfl rfl rfl) hu5 ?_
      simp only [Act.put, sA, sB, sC]
      refine oi_run (k := 9) (by kernel_rfl) rfl (by rfl) (.int .i64 0) (ex_extract rfl rfl rfl) hu5 ?_
      simp only [Act.put, sA, sB, sC]
      refine oi_run (k := 10) (by kernel_rfl) rfl (by rfl) (.int .i64 (sn : Int)) (ex_assign rfl rfl) hu5 ?_
      simp only [Act.put, sA, sB, sC]
      refine oi_run (k := 11) (by kernel_rfl) rfl (by rfl) (.int .i64 0) (ex_assign rfl rfl) hu5 ?_
      simp only [Act.put, sA, sB, sC]
      refine oi_done (by kernel_rfl) ?_
      have hI5 := hI2.moved hu5 hr5
      have hb15 := hu5.blk hb12 hne2
      have hb25 := hu5.blk hb22 hne4
      have hu05 : Upd (fun x => x = gr) w w5 := (upd_of_ext (S := fun x => x = gr) hx12).trans hu5 (fun x hx => .inl hx)
      have hs5 := hu5.size
      have hsw := hx12.size
      have hsw1 := hx1.size
      clear hb1 hb2 hb12 hb22 hI hx12 hI2 hu5
      go_wp2_with (first
       | ((with_reducible apply gS 27); refine wl_run rfl (.int .i64 (m16 : Int)) (ex_bin rfl rfl rfl H27.out) ?_)
       | ((with_reducible apply gS 28); refine wl_run rfl (.agg #[.int .i64 (sn : Int), .int .i64 (m16 : Int), .int .i64 0]) (ex_build2 rfl rfl rfl (builtTok2 _ _)) ?_)
       | ((with_reducible apply gS 8); refine wAlo' rfl (some 8) rfl 149 rfl _ zeroTok ?_; intro w6 g8 hb6 hx6 hg8)
       | ((with_reducible apply gT 8 28); refine wStB rfl 149 (.tmp 8) (.tmp 28) rfl _ _ rfl rfl hb6 3 sizeTok rfl rfl (tok_oneA (_, _, _)) ?_; intro w7 hb7 hg7; have hx7 : Ext w5 w7 := hx6.grown hg7 hg8; have hz7 := hb7.frozen 1; have q7 : w7.cell? ⟨g8, 1, none⟩ = some (.int .i64 (m16 : Int)) := hb7.cell 1; have hb8 : Blk (w7.setCell ⟨g8, 1, none⟩ (.int .i64 (sn : Int))) g8 149 #[.int .i64 (sn : Int), .int .i64 (sn : Int), .int .i64 0] := hb7.set_ 1 (.int .i64 (sn : Int)); have hu8 : Upd (fun x => w5.heap.size ≤ x) w5 (w7.setCell ⟨g8, 1, none⟩ (.int .i64 (sn : Int))) := Upd.setCell (S := fun x => w5.heap.size ≤ x) (upd_of_ext hx7) (p := ⟨g8, 1, none⟩) hg8 _; have hI8 := hI5.keep hI5.lt hu8; have q8 : (w7.setCell ⟨g8, 1, none⟩ (.int .i64 (sn : Int))).cell? ⟨g8, 1, none⟩ = some (.int .i64 (sn : Int)) := hb8.cell 1; have hb18 := hu8.blk hb15 (fun k => by have := hb15.lt; omega); have q9 : (w7.setCell ⟨g8, 1, none⟩ (.int .i64 (sn : Int))).cell? ⟨g2, 1, none⟩ = some (.pointer (some ⟨gr, 0, none⟩)) := hb18.cell 1; have hb28 := hu8.blk hb25 (fun k => by have := hb25.lt; omega); have hu08 := hu05.trans (S := fun x => x = gr) hu8 (fun x k => .inr (by omega)))
       | ((with_reducible apply gS 34); refine wl_run rfl (.bool false) (ex_gtr rfl rfl rfl H34.out) ?_)
       | (go_at_call 164; (with_reducible refine (HG9.out _ hI8.r).mono ?_); rintro e w10 ⟨rfl, hx10⟩; have hb10 := hb28.ext hx10; have hI10 := hI8.ext hx10)
       | ((with_reducible apply gS 55); refine wpList_build0 rfl 149 rfl _ HZT.out ?_)
       | ((with_reducible apply gT 4 55); refine wStB rfl 149 (.tmp 4) (.tmp 55) rfl _ _ rfl rfl hb10 3 sizeTok rfl rfl (tok_oneA _) ?_; intro w9 hb9 hg9))
      have hu9 : Upd (fun x => w.heap.size ≤ x) w10 w9 := upd_sub (upd_grown hg9) (fun x k => by have := Option.some.inj k; omega)
      refine ret_cell_tmp rfl rfl _ rfl hb9 _ Tryz.underlying149 rfl 3 sizeTok rfl ⟨rfl, hI10.keep hgw hu9, (hu08.trans (upd_of_ext (S := fun _ => False) hx10) (fun x k => k.elim)).trans hu9 (fun x k => .inr k)⟩
     ·rw [HN4.out hnb hl]
      have HG9 := hid_ (fun W (h : RdS W gr A n c p' bs) => get_yes gr A n c p' bs sn W h (by omega) (by omega))
      clear HN2 HN3 HN4 hnb
      generalize numB (((digsOf bs).drop p').take sn) = nb at *
      go_enter Tryz.func242, Tryz.ntmps242
      go_wp2_with (first
       | ((with_reducible apply gS 2); refine wBox rfl 214 (.tmp 0) rfl #[.pointer (some ⟨gk, 0, none⟩), .pointer (some ⟨gr, 0, none⟩)] rfl ?_; intro w1 g2 hb1 hx1 hg1)
       | ((with_reducible apply gS 4); refine wAlo' rfl (some 4) rfl 149 rfl _ zeroTok ?_; intro w2 g4 hb2 hx2 hg2))
      have hx12 := (hx1.trans hx2).drew
      have hI2 := HX.out _ hx12
      have hb12 := (hb1.ext hx2).drew
      have hb22 := hb2.drew
      have hne2 : ¬ g2 = gr := by omega
      have hne4 : ¬ g4 = gr := by have := hx1.size; omega
      have hI : Upd (fun x => x = gr) w2.drew w2.drew := Upd.refl _ _
      refine wp_region_oi (Upd (fun x => x = gr) w2.drew) (by kernel_rfl) ?_
      refine oi_run (k := 0) (by kernel_rfl) rfl (by rfl) (.pointer (some ⟨g2, 0, none⟩)) (fun w => by go_simp) hI ?_
      simp only [Act.put, sA, sB, sC]
      refine oi_fix (k := 1) (by kernel_rfl) rfl (by rfl) (.pointer (some ⟨gk, 0, none⟩)) (fun W hW => ex_loadK rfl rfl ((hW.blk hb12 hne2).cell 0)) hI ?_
      simp only [Act.put, sA, sB, sC]
      refine oi_run (k := 2) (by kernel_rfl) rfl (by rfl) (.bool true) (ex_move rfl rfl) hI ?_
      simp only [Act.put, sA, sB, sC]
      refine oi_run (k := 4) (by kernel_rfl) rfl (by rfl) (.pointer (some ⟨g2, 1, none⟩)) (fun w => by go_simp) hI ?_
      simp only [Act.put, sA, sB, sC]
      refine oi_fix (k := 5) (by kernel_rfl) rfl (by rfl) (.pointer (some ⟨gr, 0, none⟩)) (fun W hW => ex_loadR rfl rfl ((hW.blk hb12 hne2).cell 1)) hI ?_
      simp only [Act.put, sA, sB, sC]
      refine oi_loud (k := 3) (by kernel_rfl) rfl ?_
      refine wl_enter (by rfl) (run_callv _ _ _ rfl rfl goesOf #[.pointer (some ⟨gk, 0, none⟩), .bool true] (by simp [Act.eval])) ?_
      refine (HOF.out _ hx12).mono ?_
      rintro e w3 ⟨rfl, rfl⟩
      refine ⟨_, rfl, oi_end ⟨hI, ?_⟩⟩
      simp only [Act.put, sA, sB, sC]
      refine oi_loud (k := 6) (by kernel_rfl) rfl ?_
      refine wl_enter (by rfl) (run_callv _ _ _ rfl rfl goesGet #[.pointer (some ⟨gc, 0, none⟩), .pointer (some ⟨gr, 0, none⟩)] (by simp [Act.eval])) ?_
      refine (HGET.out _ hI2).mono ?_
      rintro e w5 ⟨rfl, hr5, hu5⟩
      refine ⟨_, rfl, oi_end ⟨hu5, ?_⟩⟩
      simp only [Act.put, sA, sB, sC]
      refine oi_run (k := 7) (by kernel_rfl) rfl (by rfl) (.tuple #[.int .i64 (sn : Int), .int .i64 0]) (ex_move rfl rfl) hu5 ?_
      simp only [Act.put, sA, sB, sC]
      refine oi_run (k := 8) (by kernel_rfl) rfl (by rfl) (.int .i64 (sn : Int)) (ex_extract rfl rfl rfl) hu5 ?_
      simp only [Act.put, sA, sB, sC]
      refine oi_run (k := 9) (by kernel_rfl) rfl (by rfl) (.int .i64 0) (ex_extract rfl rfl rfl) hu5 ?_
      simp only [Act.put, sA, sB, sC]
      refine oi_run (k := 10) (by kernel_rfl) rfl (by rfl) (.int .i64 (sn : Int)) (ex_assign rfl rfl) hu5 ?_
      simp only [Act.put, sA, sB, sC]
      refine oi_run (k := 11) (by kernel_rfl) rfl (by rfl) (.int .i64 0) (ex_assign rfl rfl) hu5 ?_
      simp only [Act.put, sA, sB, sC]
      refine oi_done (by kernel_rfl) ?_
      have hI5 := hI2.moved hu5 hr5
      have hb15 := hu5.blk hb12 hne2
      have hb25 := hu5.blk hb22 hne4
      have hu05 : Upd (fun x => x = gr) w w5 := (upd_of_ext (S := fun x => x = gr) hx12).trans hu5 (fun x hx => .inl hx)
      have hs5 := hu5.size
      have hsw := hx12.size
      have hsw1 := hx1.size
      clear hb1 hb2 hb12 hb22 hI hx12 hI2 hu5
      go_wp2_with (first
       | ((with_reducible apply gS 27); refine wl_run rfl (.int .i64 (m16 : Int)) (ex_bin rfl rfl rfl H27.out) ?_)
       | ((with_reducible apply gS 28); refine wl_run rfl (.agg #[.int .i64 (sn : Int), .int .i64 (m16 : Int), .int .i64 0]) (ex_build2 rfl rfl rfl (builtTok2 _ _)) ?_)
       | ((with_reducible apply gS 8); refine wAlo' rfl (some 8) rfl 149 rfl _ zeroTok ?_; intro w6 g8 hb6 hx6 hg8)
       | ((with_reducible apply gT 8 28); refine wStB rfl 149 (.tmp 8) (.tmp 28) rfl _ _ rfl rfl hb6 3 sizeTok rfl rfl (tok_oneA (_, _, _)) ?_; intro w7 hb7 hg7; have hx7 : Ext w5 w7 := hx6.grown hg7 hg8; have hz7 := hb7.frozen 1; have q7 : w7.cell? ⟨g8, 1, none⟩ = some (.int .i64 (m16 : Int)) := hb7.cell 1; have hb8 : Blk (w7.setCell ⟨g8, 1, none⟩ (.int .i64 (sn : Int))) g8 149 #[.int .i64 (sn : Int), .int .i64 (sn : Int), .int .i64 0] := hb7.set_ 1 (.int .i64 (sn : Int)); have hu8 : Upd (fun x => w5.heap.size ≤ x) w5 (w7.setCell ⟨g8, 1, none⟩ (.int .i64 (sn : Int))) := Upd.setCell (S := fun x => w5.heap.size ≤ x) (upd_of_ext hx7) (p := ⟨g8, 1, none⟩) hg8 _; have hI8 := hI5.keep hI5.lt hu8; have q8 : (w7.setCell ⟨g8, 1, none⟩ (.int .i64 (sn : Int))).cell? ⟨g8, 1, none⟩ = some (.int .i64 (sn : Int)) := hb8.cell 1; have hb18 := hu8.blk hb15 (fun k => by have := hb15.lt; omega); have q9 : (w7.setCell ⟨g8, 1, none⟩ (.int .i64 (sn : Int))).cell? ⟨g2, 1, none⟩ = some (.pointer (some ⟨gr, 0, none⟩)) := hb18.cell 1; have hb28 := hu8.blk hb25 (fun k => by have := hb25.lt; omega); have hu08 := hu05.trans (S := fun x => x = gr) hu8 (fun x k => .inr (by omega)))
       | ((with_reducible apply gS 34); refine wl_run rfl (.bool false) (ex_gtr rfl rfl rfl H34.out) ?_)
       | (go_at_call 164; (with_reducible refine (HG9.out _ hI8.r).mono ?_); rintro e w10 ⟨rfl, hr10, hu10⟩; have hb10 := hu10.blk hb28 hne4; have hb810 := hu10.blk hb8 (fun k => by omega); have hI10 := hI8.moved hu10 hr10; have hz10 := hb810.frozen 2; have q10 : w10.cell? ⟨g8, 2, none⟩ = some (.int .i64 0) := hb810.cell 2; have hb811 : Blk (w10.setCell ⟨g8, 2, none⟩ (.int .i64 (nb : Int))) g8 149 #[.int .i64 (sn : Int), .int .i64 (sn : Int), .int .i64 (nb : Int)] := hb810.set_ 2 (.int .i64 (nb : Int)); have hb411 := hb10.far (p := ⟨g8, 2, none⟩) (show g4 ≠ g8 by have := hb25.lt; omega) (.int .i64 (nb : Int)); have hu11 : Upd (fun x => w.heap.size ≤ x) w10 (w10.setCell ⟨g8, 2, none⟩ (.int .i64 (nb : Int))) := Upd.setCell (S := fun x => w.heap.size ≤ x) (Upd.refl _ _) (p := ⟨g8, 2, none⟩) (show w.heap.size ≤ g8 by omega) _)
       | ((with_reducible apply gS 58); refine wLdB rfl 149 (.tmp 8) rfl g8 rfl hb811 _ Tryz.underlying149 rfl 3 sizeTok rfl ?_)
       | ((with_reducible apply gT 4 58); refine wStB rfl 149 (.tmp 4) (.tmp 58) rfl _ _ rfl rfl hb411 3 sizeTok rfl rfl (tok_oneA (_, _, _)) ?_; intro w9 hb9 hg9))
      have hu9 : Upd (fun x => w.heap.size ≤ x) (w10.setCell ⟨g8, 2, none⟩ (.int .i64 (nb : Int))) w9 := upd_sub (upd_grown hg9) (fun x k => by have := Option.some.inj k; omega)
      refine ret_cell_tmp rfl rfl _ rfl hb9 _ Tryz.underlying149 rfl 3 sizeTok rfl ⟨rfl, (hI10.keep hgw hu11).keep hgw hu9, ((hu08.trans hu10 (fun x k => .inl k)).trans hu11 (fun x k => .inr k)).trans hu9 (fun x k => .inr k)⟩
  | false =>
    have HN2 := hid_ (fun h => HN2.out (sn : Int) p' (m16 : Int) rfl hmI h)
    have HN3 := hid_ (fun h => HN3.out (sn : Int) p' (m16 : Int) rfl hmI h)
    have HN4 := hid_ (fun h => HN4.out (sn : Int) p' (m16 : Int) rfl hmI h)
    rw [Int.toNat_natCast] at HN3 HN4
    clear hmI
    by_cases hw : 12 < m16
    ·have H34 : Hid (decide ((12 : Int) < (m16 : Int)) = true) := hid_ (by rw [decide_eq_true]; omega)
     rw [HN2.out (.inl (by omega))]
     clear HN2 HN3 HN4
     go_enter Tryz.func242, Tryz.ntmps242
     go_wp2_with (first
      | ((with_reducible apply gS 2); refine wBox rfl 214 (.tmp 0) rfl #[.pointer (some ⟨gk, 0, none⟩), .pointer (some ⟨gr, 0, none⟩)] rfl ?_; intro w1 g2 hb1 hx1 hg1)
      | ((with_reducible apply gS 4); refine wAlo' rfl (some 4) rfl 149 rfl _ zeroTok ?_; intro w2 g4 hb2 hx2 hg2))
     have hx12 := (hx1.trans hx2).drew
     have hI2 := HX.out _ hx12
     have hb12 := (hb1.ext hx2).drew
     have hb22 := hb2.drew
     have hne2 : ¬ g2 = gr := by omega
     have hne4 : ¬ g4 = gr := by have := hx1.size; omega
     have hI : Upd (fun x => x = gr) w2.drew w2.drew := Upd.refl _ _
     refine wp_region_oi (Upd (fun x => x = gr) w2.drew) (by kernel_rfl) ?_
     refine oi_run (k := 0) (by kernel_rfl) rfl (by rfl) (.pointer (some ⟨g2, 0, none⟩)) (fun w => by go_simp) hI ?_
     simp only [Act.put, sA, sB, sC]
     refine oi_fix (k := 1) (by kernel_rfl) rfl (by rfl) (.pointer (some ⟨gk, 0, none⟩)) (fun W hW => ex_loadK rfl rfl ((hW.blk hb12 hne2).cell 0)) hI ?_
     simp only [Act.put, sA, sB, sC]
     refine oi_run (k := 2) (by kernel_rfl) rfl (by rfl) (.bool false) (ex_move rfl rfl) hI ?_
     simp only [Act.put, sA, sB, sC]
     refine oi_run (k := 4) (by kernel_rfl) rfl (by rfl) (.pointer (some ⟨g2, 1, none⟩)) (fun w => by go_simp) hI ?_
     simp only [Act.put, sA, sB, sC]
     refine oi_fix (k := 5) (by kernel_rfl) rfl (by rfl) (.pointer (some ⟨gr, 0, none⟩)) (fun W hW => ex_loadR rfl rfl ((hW.blk hb12 hne2).cell 1)) hI ?_
     simp only [Act.put, sA, sB, sC]
     refine oi_loud (k := 3) (by kernel_rfl) rfl ?_
     refine wl_enter (by rfl) (run_callv _ _ _ rfl rfl goesOf #[.pointer (some ⟨gk, 0, none⟩), .bool false] (by simp [Act.eval])) ?_
     refine (HOF.out _ hx12).mono ?_
     rintro e w3 ⟨rfl, rfl⟩
     refine ⟨_, rfl, oi_end ⟨hI, ?_⟩⟩
     simp only [Act.put, sA, sB, sC]
     refine oi_loud (k := 6) (by kernel_rfl) rfl ?_
     refine wl_enter (by rfl) (run_callv _ _ _ rfl rfl goesGet #[.pointer (some ⟨gc, 0, none⟩), .pointer (some ⟨gr, 0, none⟩)] (by simp [Act.eval])) ?_
     refine (HGET.out _ hI2).mono ?_
     rintro e w5 ⟨rfl, hr5, hu5⟩
     refine ⟨_, rfl, oi_end ⟨hu5, ?_⟩⟩
     simp only [Act.put, sA, sB, sC]
     refine oi_run (k := 7) (by kernel_rfl) rfl (by rfl) (.tuple #[.int .i64 (sn : Int), .int .i64 0]) (ex_move rfl rfl) hu5 ?_
     simp only [Act.put, sA, sB, sC]
     refine oi_run (k := 8) (by kernel_rfl) rfl (by rfl) (.int .i64 (sn : Int)) (ex_extract rfl rfl rfl) hu5 ?_
     simp only [Act.put, sA, sB, sC]
     refine oi_run (k := 9) (by kernel_rfl) rfl (by rfl) (.int .i64 0) (ex_extract rfl rfl rfl) hu5 ?_
     simp only [Act.put, sA, sB, sC]
     refine oi_run (k := 10) (by kernel_rfl) rfl (by rfl) (.int .i64 (sn : Int)) (ex_assign rfl rfl) hu5 ?_
     simp only [Act.put, sA, sB, sC]
     refine oi_run (k := 11) (by kernel_rfl) rfl (by rfl) (.int .i64 0) (ex_assign rfl rfl) hu5 ?_
     simp only [Act.put, sA, sB, sC]
     refine oi_done (by kernel_rfl) ?_
     have hI5 := hI2.moved hu5 hr5
     have hb15 := hu5.blk hb12 hne2
     have hb25 := hu5.blk hb22 hne4
     have hu05 : Upd (fun x => x = gr) w w5 := (upd_of_ext (S := fun x => x = gr) hx12).trans hu5 (fun x hx => .inl hx)
     have hs5 := hu5.size
     have hsw := hx12.size
     have hsw1 := hx1.size
     clear hb1 hb2 hb12 hb22 hI hx12 hI2 hu5
     go_wp2_with (first
      | ((with_reducible apply gS 27); refine wl_run rfl (.int .i64 (m16 : Int)) (ex_bin rfl rfl rfl H27.out) ?_)
      | ((with_reducible apply gS 28); refine wl_run rfl (.agg #[.int .i64 (sn : Int), .int .i64 (m16 : Int), .int .i64 0]) (ex_build2 rfl rfl rfl (builtTok2 _ _)) ?_)
      | ((with_reducible apply gS 8); refine wAlo' rfl (some 8) rfl 149 rfl _ zeroTok ?_; intro w6 g8 hb6 hx6 hg8)
      | ((with_reducible apply gT 8 28); refine wStB rfl 149 (.tmp 8) (.tmp 28) rfl _ _ rfl rfl hb6 3 sizeTok rfl rfl (tok_oneA (_, _, _)) ?_; intro w7 hb7 hg7; have hx7 : Ext w5 w7 := hx6.grown hg7 hg8; have hb8 : Blk w7 g8 149 #[.int .i64 (sn : Int), .int .i64 (m16 : Int), .int .i64 0] := hb7; have hu8 : Upd (fun x => w5.heap.size ≤ x) w5 w7 := upd_of_ext hx7; have hI8 := hI5.keep hI5.lt hu8; have q8 : w7.cell? ⟨g8, 1, none⟩ = some (.int .i64 (m16 : Int)) := hb8.cell 1; have hb18 := hu8.blk hb15 (fun k => by have := hb15.lt; omega); have q9 : w7.cell? ⟨g2, 1, none⟩ = some (.pointer (some ⟨gr, 0, none⟩)) := hb18.cell 1; have hb28 := hu8.blk hb25 (fun k => by have := hb25.lt; omega); have hu08 := hu05.trans (S := fun x => x = gr) hu8 (fun x k => .inr (by omega)))
      | ((with_reducible apply gS 34); refine wl_run rfl (.bool true) (ex_gtr rfl rfl rfl H34.out) ?_)
      | ((with_reducible apply gS 44); refine wpList_build0 rfl 149 rfl _ HZT.out ?_)
      | ((with_reducible apply gT 4 44); refine wStB rfl 149 (.tmp 4) (.tmp 44) rfl _ _ rfl rfl hb28 3 sizeTok rfl rfl (tok_oneA _) ?_; intro w9 hb9 hg9))
     have hu9 : Upd (fun x => w.heap.size ≤ x) w7 w9 := upd_sub (upd_grown hg9) (fun x k => by have := Option.some.inj k; omega)
     refine ret_cell_tmp rfl rfl _ rfl hb9 _ Tryz.underlying149 rfl 3 sizeTok rfl ⟨rfl, hI8.keep hgw hu9, hu08.trans hu9 (fun x k => .inr k)⟩
    ·have H34 : Hid (decide ((12 : Int) < (m16 : Int)) = false) := hid_ (by rw [decide_eq_false]; omega)
     by_cases hw2 : 11 < m16
     ·have H41 : Hid (decide ((11 : Int) < (m16 : Int)) = true) := hid_ (by rw [decide_eq_true]; omega)
      rw [HN2.out (.inr ⟨rfl, by omega⟩)]
      clear HN2 HN3 HN4
      go_enter Tryz.func242, Tryz.ntmps242
      go_wp2_with (first
       | ((with_reducible apply gS 2); refine wBox rfl 214 (.tmp 0) rfl #[.pointer (some ⟨gk, 0, none⟩), .pointer (some ⟨gr, 0, none⟩)] rfl ?_; intro w1 g2 hb1 hx1 hg1)
       | ((with_reducible apply gS 4); refine wAlo' rfl (some 4) rfl 149 rfl _ zeroTok ?_; intro w2 g4 hb2 hx2 hg2))
      have hx12 := (hx1.trans hx2).drew
      have hI2 := HX.out _ hx12
      have hb12 := (hb1.ext hx2).drew
      have hb22 := hb2.drew
      have hne2 : ¬ g2 = gr := by omega
      have hne4 : ¬ g4 = gr := by have := hx1.size; omega
      have hI : Upd (fun x => x = gr) w2.drew w2.drew := Upd.refl _ _
      refine wp_region_oi (Upd (fun x => x = gr) w2.drew) (by kernel_rfl) ?_
      refine oi_run (k := 0) (by kernel_rfl) rfl (by rfl) (.pointer (some ⟨g2, 0, none⟩)) (fun w => by go_simp) hI ?_
      simp only [Act.put, sA, sB, sC]
      refine oi_fix (k := 1) (by kernel_rfl) rfl (by rfl) (.pointer (some ⟨gk, 0, none⟩)) (fun W hW => ex_loadK rfl rfl ((hW.blk hb12 hne2).cell 0)) hI ?_
      simp only [Act.put, sA, sB, sC]
      refine oi_run (k := 2) (by kernel_rfl) rfl (by rfl) (.bool false) (ex_move rfl rfl) hI ?_
      simp only [Act.put, sA, sB, sC]
      refine oi_run (k := 4) (by kernel_rfl) rfl (by rfl) (.pointer (some ⟨g2, 1, none⟩)) (fun w => by go_simp) hI ?_
      simp only [Act.put, sA, sB, sC]
      refine oi_fix (k := 5) (by kernel_rfl) rfl (by rfl) (.pointer (some ⟨gr, 0, none⟩)) (fun W hW => ex_loadR rfl rfl ((hW.blk hb12 hne2).cell 1)) hI ?_
      simp only [Act.put, sA, sB, sC]
      refine oi_loud (k := 3) (by kernel_rfl) rfl ?_
      refine wl_enter (by rfl) (run_callv _ _ _ rfl rfl goesOf #[.pointer (some ⟨gk, 0, none⟩), .bool false] (by simp [Act.eval])) ?_
      refine (HOF.out _ hx12).mono ?_
      rintro e w3 ⟨rfl, rfl⟩
      refine ⟨_, rfl, oi_end ⟨hI, ?_⟩⟩
      simp only [Act.put, sA, sB, sC]
      refine oi_loud (k := 6) (by kernel_rfl) rfl ?_
      refine wl_enter (by rfl) (run_callv _ _ _ rfl rfl goesGet #[.pointer (some ⟨gc, 0, none⟩), .pointer (some ⟨gr, 0, none⟩)] (by simp [Act.eval])) ?_
      refine (HGET.out _ hI2).mono ?_
      rintro e w5 ⟨rfl, hr5, hu5⟩
      refine ⟨_, rfl, oi_end ⟨hu5, ?_⟩⟩
      simp only [Act.put, sA, sB, sC]
      refine oi_run (k := 7) (by kernel_rfl) rfl (by rfl) (.tuple #[.int .i64 (sn : Int), .int .i64 0]) (ex_move rfl rfl) hu5 ?_
      simp only [Act.put, sA, sB, sC]
      refine oi_run (k := 8) (by kernel_rfl) rfl (by rfl) (.int .i64 (sn : Int)) (ex_extract rfl rfl rfl) hu5 ?_
      simp only [Act.put, sA, sB, sC]
      refine oi_run (k := 9) (by kernel_rfl) rfl (by rfl) (.int .i64 0) (ex_extract rfl rfl rfl) hu5 ?_
      simp only [Act.put, sA, sB, sC]
      refine oi_run (k := 10) (by kernel_rfl) rfl (by rfl) (.int .i64 (sn : Int)) (ex_assign rfl rfl) hu5 ?_
      simp only [Act.put, sA, sB, sC]
      refine oi_run (k := 11) (by kernel_rfl) rfl (by rfl) (.int .i64 0) (ex_assign rfl rfl) hu5 ?_
      simp only [Act.put, sA, sB, sC]
      refine oi_done (by kernel_rfl) ?_
      have hI5 := hI2.moved hu5 hr5
      have hb15 := hu5.blk hb12 hne2
      have hb25 := hu5.blk hb22 hne4
      have hu05 : Upd (fun x => x = gr) w w5 := (upd_of_ext (S := fun x => x = gr) hx12).trans hu5 (fun x hx => .inl hx)
      have hs5 := hu5.size
      have hsw := hx12.size
      have hsw1 := hx1.size
      clear hb1 hb2 hb12 hb22 hI hx12 hI2 hu5
      go_wp2_with (first
       | ((with_reducible apply gS 27); refine wl_run rfl (.int .i64 (m16 : Int)) (ex_bin rfl rfl rfl H27.out) ?_)
       | ((with_reducible apply gS 28); refine wl_run rfl (.agg #[.int .i64 (sn : Int), .int .i64 (m16 : Int), .int .i64 0]) (ex_build2 rfl rfl rfl (builtTok2 _ _)) ?_)
       | ((with_reducible apply gS 8); refine wAlo' rfl (some 8) rfl 149 rfl _ zeroTok ?_; intro w6 g8 hb6 hx6 hg8)
       | ((with_reducible apply gT 8 28); refine wStB rfl 149 (.tmp 8) (.tmp 28) rfl _ _ rfl rfl hb6 3 sizeTok rfl rfl (tok_oneA (_, _, _)) ?_; intro w7 hb7 hg7; have hx7 : Ext w5 w7 := hx6.grown hg7 hg8; have hb8 : Blk w7 g8 149 #[.int .i64 (sn : Int), .int .i64 (m16 : Int), .int .i64 0] := hb7; have hu8 : Upd (fun x => w5.heap.size ≤ x) w5 w7 := upd_of_ext hx7; have hI8 := hI5.keep hI5.lt hu8; have q8 : w7.cell? ⟨g8, 1, none⟩ = some (.int .i64 (m16 : Int)) := hb8.cell 1; have hb18 := hu8.blk hb15 (fun k => by have := hb15.lt; omega); have q9 : w7.cell? ⟨g2, 1, none⟩ = some (.pointer (some ⟨gr, 0, none⟩)) := hb18.cell 1; have hb28 := hu8.blk hb25 (fun k => by have := hb25.lt; omega); have hu08 := hu05.trans (S := fun x => x = gr) hu8 (fun x k => .inr (by omega)))
       | ((with_reducible apply gS 34); refine wl_run rfl (.bool false) (ex_gtr rfl rfl rfl H34.out) ?_)
       | ((with_reducible apply gS 41); refine wl_run_g (by rfl) (.bool true) (ex_gtr rfl rfl rfl H41.out) ?_)
       | ((with_reducible apply gS 44); refine wpList_build0 rfl 149 rfl _ HZT.out ?_)
       | ((with_reducible apply gT 4 44); refine wStB rfl 149 (.tmp 4) (.tmp 44) rfl _ _ rfl rfl hb28 3 sizeTok rfl rfl (tok_oneA _) ?_; intro w9 hb9 hg9))
      have hu9 : Upd (fun x => w.heap.size ≤ x) w7 w9 := upd_sub (upd_grown hg9) (fun x k => by have := Option.some.inj k; omega)
      refine ret_cell_tmp rfl rfl _ rfl hb9 _ Tryz.underlying149 rfl 3 sizeTok rfl ⟨rfl, hI8.keep hgw hu9, hu08.trans hu9 (fun x k => .inr k)⟩
     ·have H41 : Hid (decide ((11 : Int) < (m16 : Int)) = false) := hid_ (by rw [decide_eq_false]; omega)
      have hnb : ¬ ((12 : Int) < (m16 : Int) ∨ (false = false ∧ (11 : Int) < (m16 : Int))) := by rintro (k | ⟨-, k⟩) <;> omega
      by_cases hl : 8 * n < p' + m16
      ·rw [HN3.out hnb hl]
       have HG9 := hid_ (fun W (h : RdS W gr A n c p' bs) => get_no gr A n c p' bs m16 W h hl (by omega))
       clear HN2 HN3 HN4 hnb
       go_enter Tryz.func242, Tryz.ntmps242
       go_wp2_with (first
        | ((with_reducible apply gS 2); refine wBox rfl 214 (.tmp 0) rfl #[.pointer (some ⟨gk, 0, none⟩), .pointer (some ⟨gr, 0, none⟩)] rfl ?_; intro w1 g2 hb1 hx1 hg1)
        | ((with_reducible apply gS 4); refine wAlo' rfl (some 4) rfl 149 rfl _ zeroTok ?_; intro w2 g4 hb2 hx2 hg2))
       have hx12 := (hx1.trans hx2).drew
       have hI2 := HX.out _ hx12
       have hb12 := (hb1.ext hx2).drew
       have hb22 := hb2.drew
       have hne2 : ¬ g2 = gr := by omega
       have hne4 : ¬ g4 = gr := by have := hx1.size; omega
       have hI : Upd (fun x => x = gr) w2.drew w2.drew := Upd.refl _ _
       refine wp_region_oi (Upd (fun x => x = gr) w2.drew) (by kernel_rfl) ?_
       refine oi_run (k := 0) (by kernel_rfl) rfl (by rfl) (.pointer (some ⟨g2, 0, none⟩)) (fun w => by go_simp) hI ?_
       simp only [Act.put, sA, sB, sC]
       refine oi_fix (k := 1) (by kernel_rfl) rfl (by rfl) (.pointer (some ⟨gk, 0, none⟩)) (fun W hW => ex_loadK rfl rfl ((hW.blk hb12 hne2).cell 0)) hI ?_
       simp only [Act.put, sA, sB, sC]
       refine oi_run (k := 2) (by kernel_rfl) rfl (by rfl) (.bool false) (ex_move rfl rfl) hI ?_
       simp only [Act.put, sA, sB, sC]
       refine oi_run (k := 4) (by kernel_rfl) rfl (by rfl) (.pointer (some ⟨g2, 1, none⟩)) (fun w => by go_simp) hI ?_
       simp only [Act.put, sA, sB, sC]
       refine oi_fix (k := 5) (by kernel_rfl) rfl (by rfl) (.pointer (some ⟨gr, 0, none⟩)) (fun W hW => ex_loadR rfl rfl ((hW.blk hb12 hne2).cell 1)) hI ?_
       simp only [Act.put, sA, sB, sC]
       refine oi_loud (k := 3) (by kernel_rfl) rfl ?_
       refine wl_enter (by rfl) (run_callv _ _ _ rfl rfl goesOf #[.pointer (some ⟨gk, 0, none⟩), .bool false] (by simp [Act.eval])) ?_
       refine (HOF.out _ hx12).mono ?_
       rintro e w3 ⟨rfl, rfl⟩
       refine ⟨_, rfl, oi_end ⟨hI, ?_⟩⟩
       simp only [Act.put, sA, sB, sC]
       refine oi_loud (k := 6) (by kernel_rfl) rfl ?_
       refine wl_enter (by rfl) (run_callv _ _ _ rfl rfl goesGet #[.pointer (some ⟨gc, 0, none⟩), .pointer (some ⟨gr, 0, none⟩)] (by simp [Act.eval])) ?_
       refine (HGET.out _ hI2).mono ?_
       rintro e w5 ⟨rfl, hr5, hu5⟩
       refine ⟨_, rfl, oi_end ⟨hu5, ?_⟩⟩
       simp only [Act.put, sA, sB, sC]
       refine oi_run (k := 7) (by kernel_rfl) rfl (by rfl) (.tuple #[.int .i64 (sn : Int), .int .i64 0]) (ex_move rfl rfl) hu5 ?_
       simp only [Act.put, sA, sB, sC]
       refine oi_run (k := 8) (by kernel_rfl) rfl (by rfl) (.int .i64 (sn : Int)) (ex_extract rfl rfl rfl) hu5 ?_
       simp only [Act.put, sA, sB, sC]
       refine oi_run (k := 9) (by kernel_rfl) rfl (by rfl) (.int .i64 0) (ex_extract rfl rfl rfl) hu5 ?_
       simp only [Act.put, sA, sB, sC]
       refine oi_run (k := 10) (by kernel_rfl) rfl (by rfl) (.int .i64 (sn : Int)) (ex_assign rfl rfl) hu5 ?_
       simp only [Act.put, sA, sB, sC]
       refine oi_run (k := 11) (by kernel_rfl) rfl (by rfl) (.int .i64 0) (ex_assign rfl rfl) hu5 ?_
       simp only [Act.put, sA, sB, sC]
       refine oi_done (by kernel_rfl) ?_
       have hI5 := hI2.moved hu5 hr5
       have hb15 := hu5.blk hb12 hne2
       have hb25 := hu5.blk hb22 hne4
       have hu05 : Upd (fun x => x = gr) w w5 := (upd_of_ext (S := fun x => x = gr) hx12).trans hu5 (fun x hx => .inl hx)
       have hs5 := hu5.size
       have hsw := hx12.size
       have hsw1 := hx1.size
       clear hb1 hb2 hb12 hb22 hI hx12 hI2 hu5
       go_wp2_with (first
        | ((with_reducible apply gS 27); refine wl_run rfl (.int .i64 (m16 : Int)) (ex_bin rfl rfl rfl H27.out) ?_)
        | ((with_reducible apply gS 28); refine wl_run rfl (.agg #[.int .i64 (sn : Int), .int .i64 (m16 : Int), .int .i64 0]) (ex_build2 rfl rfl rfl (builtTok2 _ _)) ?_)
        | ((with_reducible apply gS 8); refine wAlo' rfl (some 8) rfl 149 rfl _ zeroTok ?_; intro w6 g8 hb6 hx6 hg8)
        | ((with_reducible apply gT 8 28); refine wStB rfl 149 (.tmp 8) (.tmp 28) rfl _ _ rfl rfl hb6 3 sizeTok rfl rfl (tok_oneA (_, _, _)) ?_; intro w7 hb7 hg7; have hx7 : Ext w5 w7 := hx6.grown hg7 hg8; have hb8 : Blk w7 g8 149 #[.int .i64 (sn : Int), .int .i64 (m16 : Int), .int .i64 0] := hb7; have hu8 : Upd (fun x => w5.heap.size ≤ x) w5 w7 := upd_of_ext hx7; have hI8 := hI5.keep hI5.lt hu8; have q8 : w7.cell? ⟨g8, 1, none⟩ = some (.int .i64 (m16 : Int)) := hb8.cell 1; have hb18 := hu8.blk hb15 (fun k => by have := hb15.lt; omega); have q9 : w7.cell? ⟨g2, 1, none⟩ = some (.pointer (some ⟨gr, 0, none⟩)) := hb18.cell 1; have hb28 := hu8.blk hb25 (fun k => by have := hb25.lt; omega); have hu08 := hu05.trans (S := fun x => x = gr) hu8 (fun x k => .inr (by omega)))
        | ((with_reducible apply gS 34); refine wl_run rfl (.bool false) (ex_gtr rfl rfl rfl H34.out) ?_)
        | ((with_reducible apply gS 41); refine wl_run_g (by rfl) (.bool false) (ex_gtr rfl rfl rfl H41.out) ?_)
        | (go_at_call 164; (with_reducible refine (HG9.out _ hI8.r).mono ?_); rintro e w10 ⟨rfl, hx10⟩; have hb10 := hb28.ext hx10; have hI10 := hI8.ext hx10)
        | ((with_reducible apply gS 55); refine wpList_build0 rfl 149 rfl _ HZT.out ?_)
        | ((with_reducible apply gT 4 55); refine wStB rfl 149 (.tmp 4) (.tmp 55) rfl _ _ rfl rfl hb10 3 sizeTok rfl rfl (tok_oneA _) ?_; intro w9 hb9 hg9))
       have hu9 : Upd (fun x => w.heap.size ≤ x) w10 w9 := upd_sub (upd_grown hg9) (fun x k => by have := Option.some.inj k; omega)
       refine ret_cell_tmp rfl rfl _ rfl hb9 _ Tryz.underlying149 rfl 3 sizeTok rfl ⟨rfl, hI10.keep hgw hu9, (hu08.trans (upd_of_ext (S := fun _ => False) hx10) (fun x k => k.elim)).trans hu9 (fun x k => .inr k)⟩
      ·rw [HN4.out hnb hl]
       have HG9 := hid_ (fun W (h : RdS W gr A n c p' bs) => get_yes gr A n c p' bs m16 W h (by omega) (by omega))
       clear HN2 HN3 HN4 hnb
       generalize numB (((digsOf bs).drop p').take m16) = nb at *
       go_enter Tryz.func242, Tryz.ntmps242
       go_wp2_with (first
        | ((with_reducible apply gS 2); refine wBox rfl 214 (.tmp 0) rfl #[.pointer (some ⟨gk, 0, none⟩), .pointer (some ⟨gr, 0, none⟩)] rfl ?_; intro w1 g2 hb1 hx1 hg1)
        | ((with_reducible apply gS 4); refine wAlo' rfl (some 4) rfl 149 rfl _ zeroTok ?_; intro w2 g4 hb2 hx2 hg2))
       have hx12 := (hx1.trans hx2).drew
       have hI2 := HX.out _ hx12
       have hb12 := (hb1.ext hx2).drew
       have hb22 := hb2.drew
       have hne2 : ¬ g2 = gr := by omega
       have hne4 : ¬ g4 = gr := by have := hx1.size; omega
       have hI : Upd (fun x => x = gr) w2.drew w2.drew := Upd.refl _ _
       refine wp_region_oi (Upd (fun x => x = gr) w2.drew) (by kernel_rfl) ?_
       refine oi_run (k := 0) (by kernel_rfl) rfl (by rfl) (.pointer (some ⟨g2, 0, none⟩)) (fun w => by go_simp) hI ?_
       simp only [Act.put, sA, sB, sC]
       refine oi_fix (k := 1) (by kernel_rfl) rfl (by rfl) (.pointer (some ⟨gk, 0, none⟩)) (fun W hW => ex_loadK rfl rfl ((hW.blk hb12 hne2).cell 0)) hI ?_
       simp only [Act.put, sA, sB, sC]
       refine oi_run (k := 2) (by kernel_rfl) rfl (by rfl) (.bool false) (ex_move rfl rfl) hI ?_
       simp only [Act.put, sA, sB, sC]
       refine oi_run (k := 4) (by kernel_rfl) rfl (by rfl) (.pointer (some ⟨g2, 1, none⟩)) (fun w => by go_simp) hI ?_
       simp only [Act.put, sA, sB, sC]
       refine oi_fix (k := 5) (by kernel_rfl) rfl (by rfl) (.pointer (some ⟨gr, 0, none⟩)) (fun W hW => ex_loadR rfl rfl ((hW.blk hb12 hne2).cell 1)) hI ?_
       simp only [Act.put, sA, sB, sC]
       refine oi_loud (k := 3) (by kernel_rfl) rfl ?_
       refine wl_enter (by rfl) (run_callv _ _ _ rfl rfl goesOf #[.pointer (some ⟨gk, 0, none⟩), .bool false] (by simp [Act.eval])) ?_
       refine (HOF.out _ hx12).mono ?_
       rintro e w3 ⟨rfl, rfl⟩
       refine ⟨_, rfl, oi_end ⟨hI, ?_⟩⟩
       simp only [Act.put, sA, sB, sC]
       refine oi_loud (k := 6) (by kernel_rfl) rfl ?_
       refine wl_enter (by rfl) (run_callv _ _ _ rfl rfl goesGet #[.pointer (some ⟨gc, 0, none⟩), .pointer (some ⟨gr, 0, none⟩)] (by simp [Act.eval])) ?_
       refine (HGET.out _ hI2).mono ?_
       rintro e w5 ⟨rfl, hr5, hu5⟩
       refine ⟨_, rfl, oi_end ⟨hu5, ?_⟩⟩
       simp only [Act.put, sA, sB, sC]
       refine oi_run (k := 7) (by kernel_rfl) rfl (by rfl) (.tuple #[.int .i64 (sn : Int), .int .i64 0]) (ex_move rfl rfl) hu5 ?_
       simp only [Act.put, sA, sB, sC]
       refine oi_run (k := 8) (by kernel_rfl) rfl (by rfl) (.int .i64 (sn : Int)) (ex_extract rfl rfl rfl) hu5 ?_
       simp only [Act.put, sA, sB, sC]
       refine oi_run (k := 9) (by kernel_rfl) rfl (by rfl) (.int .i64 0) (ex_extract rfl rfl rfl) hu5 ?_
       simp only [Act.put, sA, sB, sC]
       refine oi_run (k := 10) (by kernel_rfl) rfl (by rfl) (.int .i64 (sn : Int)) (ex_assign rfl rfl) hu5 ?_
       simp only [Act.put, sA, sB, sC]
       refine oi_run (k := 11) (by kernel_rfl) rfl (by rfl) (.int .i64 0) (ex_assign rfl rfl) hu5 ?_
       simp only [Act.put, sA, sB, sC]
       refine oi_done (by kernel_rfl) ?_
       have hI5 := hI2.moved hu5 hr5
       have hb15 := hu5.blk hb12 hne2
       have hb25 := hu5.blk hb22 hne4
       have hu05 : Upd (fun x => x = gr) w w5 := (upd_of_ext (S := fun x => x = gr) hx12).trans hu5 (fun x hx => .inl hx)
       have hs5 := hu5.size
       have hsw := hx12.size
       have hsw1 := hx1.size
       clear hb1 hb2 hb12 hb22 hI hx12 hI2 hu5
       go_wp2_with (first
        | ((with_reducible apply gS 27); refine wl_run rfl (.int .i64 (m16 : Int)) (ex_bin rfl rfl rfl H27.out) ?_)
        | ((with_reducible apply gS 28); refine wl_run rfl (.agg #[.int .i64 (sn : Int), .int .i64 (m16 : Int), .int .i64 0]) (ex_build2 rfl rfl rfl (builtTok2 _ _)) ?_)
        | ((with_reducible apply gS 8); refine wAlo' rfl (some 8) rfl 149 rfl _ zeroTok ?_; intro w6 g8 hb6 hx6 hg8)
        | ((with_reducible apply gT 8 28); refine wStB rfl 149 (.tmp 8) (.tmp 28) rfl _ _ rfl rfl hb6 3 sizeTok rfl rfl (tok_oneA (_, _, _)) ?_; intro w7 hb7 hg7; have hx7 : Ext w5 w7 := hx6.grown hg7 hg8; have hb8 : Blk w7 g8 149 #[.int .i64 (sn : Int), .int .i64 (m16 : Int), .int .i64 0] := hb7; have hu8 : Upd (fun x => w5.heap.size ≤ x) w5 w7 := upd_of_ext hx7; have hI8 := hI5.keep hI5.lt hu8; have q8 : w7.cell? ⟨g8, 1, none⟩ = some (.int .i64 (m16 : Int)) := hb8.cell 1; have hb18 := hu8.blk hb15 (fun k => by have := hb15.lt; omega); have q9 : w7.cell? ⟨g2, 1, none⟩ = some (.pointer (some ⟨gr, 0, none⟩)) := hb18.cell 1; have hb28 := hu8.blk hb25 (fun k => by have := hb25.lt; omega); have hu08 := hu05.trans (S := fun x => x = gr) hu8 (fun x k => .inr (by omega)))
        | ((with_reducible apply gS 34); refine wl_run rfl (.bool false) (ex_gtr rfl rfl rfl H34.out) ?_)
        | ((with_reducible apply gS 41); refine wl_run_g (by rfl) (.bool false) (ex_gtr rfl rfl rfl H41.out) ?_)
        | (go_at_call 164; (with_reducible refine (HG9.out _ hI8.r).mono ?_); rintro e w10 ⟨rfl, hr10, hu10⟩; have hb10 := hu10.blk hb28 hne4; have hb810 := hu10.blk hb8 (fun k => by omega); have hI10 := hI8.moved hu10 hr10; have hz10 := hb810.frozen 2; have q10 : w10.cell? ⟨g8, 2, none⟩ = some (.int .i64 0) := hb810.cell 2; have hb811 : Blk (w10.setCell ⟨g8, 2, none⟩ (.int .i64 (nb : Int))) g8 149 #[.int .i64 (sn : Int), .int .i64 (m16 : Int), .int .i64 (nb : Int)] := hb810.set_ 2 (.int .i64 (nb : Int)); have hb411 := hb10.far (p := ⟨g8, 2, none⟩) (show g4 ≠ g8 by have := hb25.lt; omega) (.int .i64 (nb : Int)); have hu11 : Upd (fun x => w.heap.size ≤ x) w10 (w10.setCell ⟨g8, 2, none⟩ (.int .i64 (nb : Int))) := Upd.setCell (S := fun x => w.heap.size ≤ x) (Upd.refl _ _) (p := ⟨g8, 2, none⟩) (show w.heap.size ≤ g8 by omega) _)
        | ((with_reducible apply gS 58); refine wLdB rfl 149 (.tmp 8) rfl g8 rfl hb811 _ Tryz.underlying149 rfl 3 sizeTok rfl ?_)
        | ((with_reducible apply gT 4 58); refine wStB rfl 149 (.tmp 4) (.tmp 58) rfl _ _ rfl rfl hb411 3 sizeTok rfl rfl (tok_oneA (_, _, _)) ?_; intro w9 hb9 hg9))
       have hu9 : Upd (fun x => w.heap.size ≤ x) (w10.setCell ⟨g8, 2, none⟩ (.int .i64 (nb : Int))) w9 := upd_sub (upd_grown hg9) (fun x k => by have := Option.some.inj k; omega)
       refine ret_cell_tmp rfl rfl _ rfl hb9 _ Tryz.underlying149 rfl 3 sizeTok rfl ⟨rfl, (hI10.keep hgw hu11).keep hgw hu9, ((hu08.trans hu10 (fun x k => .inl k)).trans hu11 (fun x k => .inr k)).trans hu9 (fun x k => .inr k)⟩
 ·have HR := hid_ (HN1.out h0)
  have hbx : (er != 0) = true := by simpa using h0
  have HPS : Hid ((if er = 0 then p' else if er = 3 then 8 * n else p + 16) = if er = 3 then 8 * n else p + 16) := hid_ (if_neg h0)
  rw [HPS.out] at HGET
  obtain ⟨ps, hps⟩ : ∃ ps, (if er = 3 then 8 * n else p + 16) = ps := ⟨_, rfl⟩
  rw [hps] at HGET HR
  rw [HR.out]
  clear HPS hps h0 HN1 HN2 HN3 HN4 HR
  go_enter Tryz.func242, Tryz.ntmps242
  go_wp2_with (first
   | ((with_reducible apply gS 2); refine wBox rfl 214 (.tmp 0) rfl #[.pointer (some ⟨gk, 0, none⟩), .pointer (some ⟨gr, 0, none⟩)] rfl ?_; intro w1 g2 hb1 hx1 hg1)
   | ((with_reducible apply gS 4); refine wAlo' rfl (some 4) rfl 149 rfl _ zeroTok ?_; intro w2 g4 hb2 hx2 hg2))
  have hx12 := (hx1.trans hx2).drew
  have hI2 := HX.out _ hx12
  have hb12 := (hb1.ext hx2).drew
  have hb22 := hb2.drew
  have hne2 : ¬ g2 = gr := by omega
  have hne4 : ¬ g4 = gr := by have := hx1.size; omega
  have hI : Upd (fun x => x = gr) w2.drew w2.drew := Upd.refl _ _
  refine wp_region_oi (Upd (fun x => x = gr) w2.drew) (by kernel_rfl) ?_
  refine oi_run (k := 0) (by kernel_rfl) rfl (by rfl) (.pointer (some ⟨g2, 0, none⟩)) (fun w => by go_simp) hI ?_
  simp only [Act.put, sA, sB, sC]
  refine oi_fix (k := 1) (by kernel_rfl) rfl (by rfl) (.pointer (some ⟨gk, 0, none⟩)) (fun W hW => ex_loadK rfl rfl ((hW.blk hb12 hne2).cell 0)) hI ?_
  simp only [Act.put, sA, sB, sC]
  refine oi_run (k := 2) (by kernel_rfl) rfl (by rfl) (.bool b) (ex_move rfl rfl) hI ?_
  simp only [Act.put, sA, sB, sC]
  refine oi_run (k := 4) (by kernel_rfl) rfl (by rfl) (.pointer (some ⟨g2, 1, none⟩)) (fun w => by go_simp) hI ?_
  simp only [Act.put, sA, sB, sC]
  refine oi_fix (k := 5) (by kernel_rfl) rfl (by rfl) (.pointer (some ⟨gr, 0, none⟩)) (fun W hW => ex_loadR rfl rfl ((hW.blk hb12 hne2).cell 1)) hI ?_
  simp only [Act.put, sA, sB, sC]
  refine oi_loud (k := 3) (by kernel_rfl) rfl ?_
  refine wl_enter (by rfl) (run_callv _ _ _ rfl rfl goesOf #[.pointer (some ⟨gk, 0, none⟩), .bool b] (by simp [Act.eval])) ?_
  refine (HOF.out _ hx12).mono ?_
  rintro e w3 ⟨rfl, rfl⟩
  refine ⟨_, rfl, oi_end ⟨hI, ?_⟩⟩
  simp only [Act.put, sA, sB, sC]
  refine oi_loud (k := 6) (by kernel_rfl) rfl ?_
  refine wl_enter (by rfl) (run_callv _ _ _ rfl rfl goesGet #[.pointer (some ⟨gc, 0, none⟩), .pointer (some ⟨gr, 0, none⟩)] (by simp [Act.eval])) ?_
  refine (HGET.out _ hI2).mono ?_
  rintro e w5 ⟨rfl, hr5, hu5⟩
  refine ⟨_, rfl, oi_end ⟨hu5, ?_⟩⟩
  simp only [Act.put, sA, sB, sC]
  refine oi_run (k := 7) (by kernel_rfl) rfl (by rfl) (.tuple #[.int .i64 (sn : Int), .int .i64 er]) (ex_move rfl rfl) hu5 ?_
  simp only [Act.put, sA, sB, sC]
  refine oi_run (k := 8) (by kernel_rfl) rfl (by rfl) (.int .i64 (sn : Int)) (ex_extract rfl rfl rfl) hu5 ?_
  simp only [Act.put, sA, sB, sC]
  refine oi_run (k := 9) (by kernel_rfl) rfl (by rfl) (.int .i64 er) (ex_extract rfl rfl rfl) hu5 ?_
  simp only [Act.put, sA, sB, sC]
  refine oi_run (k := 10) (by kernel_rfl) rfl (by rfl) (.int .i64 (sn : Int)) (ex_assign rfl rfl) hu5 ?_
  simp only [Act.put, sA, sB, sC]
  refine oi_run (k := 11) (by kernel_rfl) rfl (by rfl) (.int .i64 er) (ex_assign rfl rfl) hu5 ?_
  simp only [Act.put, sA, sB, sC]
  refine oi_done (by kernel_rfl) ?_
  have hI5 := hI2.moved hu5 hr5
  have hb15 := hu5.blk hb12 hne2
  have hb25 := hu5.blk hb22 hne4
  have hu05 : Upd (fun x => x = gr) w w5 := (upd_of_ext (S := fun x => x = gr) hx12).trans hu5 (fun x hx => .inl hx)
  have hs5 := hu5.size
  have hsw := hx12.size
  have hsw1 := hx1.size
  clear hb1 hb2 hb12 hb22 hI hx12 hI2 hu5
  go_wp2_with (first
   | ((with_reducible apply gS 23); refine wpList_build0 rfl 149 rfl _ HZT.out ?_)
   | ((with_reducible apply gT 4 23); refine wStB rfl 149 (.tmp 4) (.tmp 23) rfl _ _ rfl rfl hb25 3 sizeTok rfl rfl (tok_oneA _) ?_; intro w6 hb6 hg6))
  have hu6 : Upd (fun x => w.heap.size ≤ x) w5 w6 := upd_sub (upd_grown hg6) (fun x k => by have := Option.some.inj k; omega)
  refine ret_cell_tmp rfl rfl _ rfl hb6 _ Tryz.underlying149 rfl 3 sizeTok rfl ⟨rfl, hI5.keep hgw hu6, hu05.trans hu6 (fun x k => .inr k)⟩
end
end Go.Proofs.YtkggcjdlpendfaaGreatDoor
