/- Contracts for the law RescueDecodesCard, part 29: what the functions that it reaches answer, for all arguments that the theorems name. -/
import Derived.Test.YtkggcjdlpendfaaGreatDoorMRescueDecodesCard9
import Derived.Test.YtkggcjdlpendfaaGreatDoorMRescueDecodesCard1
import Derived.Test.YtkggcjdlpendfaaGreatDoorMRescueDecodesCard3
import Derived.Test.YtkggcjdlpendfaaGreatDoorMRescueDecodesCard2
import Derived.Test.YtkggcjdlpendfaaGreatDoorMRescueDecodesCard6
import Derived.Deep.Cut
import Derived.Test.YtkggcjdlpendfaaGreatDoorMRescueDecodesCard28
import Derived.Test.YtkggcjdlpendfaaGreatDoorMRescueDecodesCard14
import Derived.Test.YtkggcjdlpendfaaGreatDoorRows
import Derived.ProofKit
import Derived.OpenShut
import Derived.JoinedCond
import Derived.Test.YtkggcjdlpendfaaGreatDoorCards
import Derived.Test.YtkggcjdlpendfaaGreatDoorTie
import Derived.WalkKit
import Derived.Deep.DeepHandedRow
import Derived.Lib.LaidTab
import Derived.Shelf.Vars
namespace Go.Proofs.YtkggcjdlpendfaaGreatDoor
set_option linter.unusedVariables false
set_option linter.unusedSimpArgs false
open Go.RowKit
set_option maxRecDepth 20000 in
set_option maxHeartbeats 1000000 in
theorem eqListsI_same (A B : Option Addr) (n c d : Nat) (L : List (List Int)) (w : World) (hu : RowsS w A n c L) (hv : RowsS w B n d L) :
 Calls Tryz.prog 62 #[.slice A n c, .slice B n d] w fun e w' => e = .returned (.bool true) ∧ Ext w w' := by
 have hc1 := hu.cap
 have hd1 := hv.cap
 have e1 : ((n : Int) != (n : Int)) = false := by simp
 go_enter Tryz.func62, Tryz.ntmps62
 go_wp2_with fail
 go_loopw [13] (fun i wr => ∃ k : Nat, k ≤ n ∧ i = .int .i64 (k : Int) ∧ Ext w wr) (fun i _ => n - (intOf i).toNat)
 case atStart => exact ⟨0, by omega, rfl, Ext.refl _⟩
 case round =>
  obtain ⟨k, hk, rfl, hx⟩ := hrel
  by_cases hlt : k < n
  ·have hxd : Ext w wr.drew := hx.drew
   obtain ⟨ad, l, A1, c1, rfl, hLk, hab, hca, hsA⟩ := (hu.ext hxd).get hlt
   obtain ⟨bd, l', A2, c2, rfl, hLk', hbb, hcb, hsB⟩ := (hv.ext hxd).get hlt
   obtain rfl : l = l' := Option.some.inj (hLk.symm.trans hLk')
   have HEQ := hid_ (fun W (x : SL W 1 (.slice A1 l.length c1) l.length (ints l)) (y : SL W 1 (.slice A2 l.length c2) l.length (ints l)) => eqInt_any _ _ l l W x y)
   rw [decide_eq_true (rfl : l = l)] at HEQ
   generalize ints l = il at *
   generalize l.length = m at *
   have HCA : ∀ W, Ext wr.drew W → W.cell? (ad.add (k * 1)) = some (.slice A1 m c1) := fun W h => by
    rw [Nat.mul_one]; exact (h.cell (by rw [block_of_add]; exact hab)).trans hca
   have HCB : ∀ W, Ext wr.drew W → W.cell? (bd.add (k * 1)) = some (.slice A2 m c2) := fun W h => by
    rw [Nat.mul_one]; exact (h.cell (by rw [block_of_add]; exact hbb)).trans hcb
   go_wp2_with fail
   refine wp_region_lx later_ext (by kernel_rfl) (by kernel_rfl) ?_
   refine lx_run (by rfl) (.slice (some ad) n c) (ex_move rfl rfl) ?_
   simp only [Act.put, sA, sB, sC]
   refine lx_run (by rfl) (.int .i64 ((k : Nat) : Int)) (ex_move rfl rfl) ?_
   simp only [Act.put, sA, sB, sC]
   refine lx_run (by rfl) (.pointer (some (ad.add (k * 1)))) (ex_ixSl Tryz.underlying29 sizeRow rfl rfl rfl hlt) ?_
   simp only [Act.put, sA, sB, sC]
   refine lx_read (by rfl) (.slice A1 m c1) (fun W hW => ex_loadL rfl rfl (HCA W hW)) ?_
   simp only [Act.put, sA, sB, sC]
   refine lx_run (by rfl) (.slice (some bd) n d) (ex_move rfl rfl) ?_
   simp only [Act.put, sA, sB, sC]
   refine lx_run (by rfl) (.int .i64 ((k : Nat) : Int)) (ex_move rfl rfl) ?_
   simp only [Act.put, sA, sB, sC]
   refine lx_run (by rfl) (.pointer (some (bd.add (k * 1)))) (ex_ixSl Tryz.underlying29 sizeRow rfl rfl rfl hlt) ?_
   simp only [Act.put, sA, sB, sC]
   refine lx_read (by rfl) (.slice A2 m c2) (fun W hW => ex_loadL rfl rfl (HCB W hW)) ?_
   simp only [Act.put, sA, sB, sC]
   refine lx_callF (by rfl) 26 Tryz.func26 rfl rfl _ _ rfl #[.slice A1 m c1, .slice A2 m c2] (by simp [Act.eval]) (.bool true) (fun W h => (HEQ.out W (hsA.ext h) (hsB.ext h)).mono (fun e w' h => by rw [← h.2]; exact ⟨h.1, Ext.refl _⟩)) ?_
   simp only [Act.put, sA, sB, sC]
   refine lx_run (by rfl) (.bool false) (ex_not (b := true) rfl rfl) ?_
   simp only [Act.put, sA, sB, sC]
   refine lx_nil ?_
   intro w9 hx9
   go_wp2_with fail
   go_roundw
   case rel => exact ⟨k + 1, by omega, by go_num, hxd.trans hx9⟩
   case measure => simp [intOf]; omega
  ·go_wp2_with fail
   go_ret
   exact ⟨rfl, hx⟩
set_option maxRecDepth 20000 in
set_option maxHeartbeats 1000000 in
theorem pictureEq_same (wd hi : Int) (A B : Option Addr) (n c d : Nat) (L : List (List Int)) (w : World) (hu : RowsS w A n c L) (hv : RowsS w B n d L) :
 Calls Tryz.prog 25 #[.agg (picV wd hi (.slice A n c)), .agg (picV wd hi (.slice B n d))] w fun e w' => e = .returned (.bool true) ∧ Ext w w' := by
 have HE := hid_ (fun W (h : Ext w W) => eqListsI_same A B n c d L W (hu.ext h) (hv.ext h))
 have HPC1 := hid_ (fun (W : World) g (h : Blk W g 31 (picV wd hi (.slice A n c))) => pic_cells h)
 have HPC2 := hid_ (fun (W : World) g (h : Blk W g 31 (picV wd hi (.slice B n d))) => pic_cells h)
 generalize picV wd hi (.slice A n c) = P1 at *
 generalize picV wd hi (.slice B n d) = P2 at *
 clear hu hv
 go_enter Tryz.func25, Tryz.ntmps25
 go_wp2_with (first
  | ((with_reducible apply gS 2); refine wBox rfl 31 (.tmp 0) rfl P1 rfl ?_; intro w1 g1 hb1 hx1 hg1)
  | ((with_reducible apply gS 3); refine wBox rfl 31 (.tmp 1) rfl P2 rfl ?_; intro w2 g2 hb2 hx2 hg2; have hb12 := hb1.ext hx2; have r1 := HPC1.out _ _ hb12; have r2 := HPC2.out _ _ hb2; have hx12 := hx1.trans hx2)
  | ((with_reducible apply gS 6); refine wl_read rfl (.int .i64 wd) (ex_loadI rfl rfl r1.1) ?_)
  | ((with_reducible apply gS 8); refine wl_read rfl (.int .i64 wd) (ex_loadI rfl rfl r2.1) ?_)
  | ((with_reducible apply gS 9); refine wl_run rfl (.bool true) (ex_eql rfl rfl rfl (by simp)) ?_)
  | ((with_reducible apply gS 12); refine wl_read_g (by rfl) (.int .i64 hi) (ex_loadI rfl rfl r1.2.1) ?_)
  | ((with_reducible apply gS 14); refine wl_read_g (by rfl) (.int .i64 hi) (ex_loadI rfl rfl r2.2.1) ?_)
  | ((with_reducible apply gS 15); refine wl_run_g (by rfl) (.bool true) (ex_eql rfl rfl rfl (by simp)) ?_)
  | ((with_reducible apply gS 19); refine wl_read_g (by rfl) (.slice A n c) (ex_loadLL rfl rfl r1.2.2) ?_)
  | ((with_reducible apply gS 21); refine wl_read_g (by rfl) (.slice B n d) (ex_loadLL rfl rfl r2.2.2) ?_)
  | (go_at_call 62; (with_reducible refine (HE.out _ hx12).mono ?_); rintro e w5 ⟨rfl, hx5⟩))
 go_ret
 exact ⟨rfl, hx12.trans hx5⟩
def FC.chk (F : FC) : Int := fcheckZ F.wd F.hi F.pt F.qs (checkZ F.cs1 F.xs1) (checkZ F.cs2 F.xs2) F.ev F.data.length
theorem FC.check (F : FC) (hF : F.shaped) (s1 s2 sd : Value) (w : World) (ha : F.at_ w s1 s2 sd) : Calls Tryz.prog 50 #[.agg (F.cells s1 s2 sd)] w fun e w' => e = .returned (.int .i64 F.chk) ∧ Ext w w' :=
 fcheck_any F.wd F.hi F.pt F.ev F.qs F.cs1 F.xs1 s1 F.cs2 F.xs2 s2 F.data sd w hF.1 hF.2.1 hF.2.2 ha.1 ha.2.1 ha.2.2
theorem FC.rcheck (F : FC) (hF : F.shaped) (s1 s2 sd : Value) (w : World) (ha : F.at_ w s1 s2 sd) : Calls Tryz.prog 52 #[.agg (F.cells s1 s2 sd)] w fun e w' => e = .returned (.int .i64 F.chk) ∧ Ext w w' :=
 rfcheck_any F.wd F.hi F.pt F.ev F.qs F.cs1 F.xs1 s1 F.cs2 F.xs2 s2 F.data sd w hF.1 hF.2.1 hF.2.2 ha.1 ha.2.1 ha.2.2
theorem rescueBoth (F : FC) (hF : F.shaped) (s1 s2 : Value) (A : Option Addr) (n c : Nat) (hn : F.data.length = n) (hlt : ∀ b ∈ F.data, b < 256) (m0 : Int) (w : World) (hm : w.cell? ⟨0, 0, none⟩ = some (.int .i64 m0)) (ha : F.at_ w s1 s2 (.slice A n c)) :
 ∃ (E wd hi : Int) (L : List (List Int)) (Y : List Int), (∀ W, Ext w W → Calls Tryz.prog 22 #[.agg (F.cells s1 s2 (.slice A n c))] W (RcIs E wd hi L Y W)) ∧ (∀ W, Ext w W → Calls Tryz.prog 24 #[.agg (F.cells s1 s2 (.slice A n c))] W (RcIs E wd hi L Y W)) := by
 have C1 := fun W (h : Ext w W) => F.check hF s1 s2 (.slice A n c) W (ha.ext h)
 have C2 := fun W (h : Ext w W) => F.rcheck hF s1 s2 (.slice A n c) W (ha.ext h)
 by_cases hz : F.chk = 0
 ·rw [hz] at C1 C2
  obtain ⟨a, b, p, ea, eb, ep, a1, a2, b1, b2, hp13, hev0, hev1, hq, z1, z2, hd⟩ := fcheck_zero hz
  obtain ⟨nb, hnb⟩ : ∃ nb, cutN a b = nb := ⟨_, rfl⟩
  obtain ⟨m, hmn⟩ : ∃ m, nb * p = m := ⟨_, rfl⟩
  have h3 := ha.2.2
  rw [hn] at h3
  obtain ⟨r, hr, K1, K2⟩ := mendBothD F.cs1 F.xs1 F.cs2 F.xs2 s1 s2 hF.2.1 hF.2.2 A n c F.data (m : Int) F.ev hlt (by omega) m0 w hm ha.1 ha.2.1 h3
  obtain ⟨r1, X, Y⟩ := r
  by_cases h0 : r1 = 0
  ·subst h0
   have hX : X.length = m * 64 := by have := (hr rfl).1; simpa using this
   exact ⟨0, a, b, showZ F.qs X a b p, Y, fun W h => rescDec_good F hF s1 s2 A n c F.ev a b p nb m ea eb ep rfl a1 a2 b1 b2 hp13 hnb hmn W (fun W' h' => C1 W' (h.trans h')) X Y hX (fun W' h' => K1 W' (h.trans h')),
    fun W h => rrescDec_good F hF s1 s2 A n c F.ev a b p nb m ea eb ep rfl a1 a2 b1 b2 hp13 hnb hmn W (fun W' h' => C2 W' (h.trans h')) X Y hX (fun W' h' => K2 W' (h.trans h'))⟩
  ·exact ⟨r1, 0, 0, [], [], fun W h => rescDec_err F hF s1 s2 A n c F.ev a b p nb m ea eb ep rfl a1 a2 b1 b2 hp13 hnb hmn W (fun W' h' => C1 W' (h.trans h')) r1 X Y h0 (fun W' h' => K1 W' (h.trans h')),
    fun W h => rrescDec_err F hF s1 s2 A n c F.ev a b p nb m ea eb ep rfl a1 a2 b1 b2 hp13 hnb hmn W (fun W' h' => C2 W' (h.trans h')) r1 X Y h0 (fun W' h' => K2 W' (h.trans h'))⟩
 ·exact ⟨F.chk, 0, 0, [], [], fun W h => rescDec_bad _ (FC.size hF _ _ _) _ hz W (fun W' h' => C1 W' (h.trans h')), fun W h => rrescDec_bad _ (FC.size hF _ _ _) _ hz W (fun W' h' => C2 W' (h.trans h'))⟩
theorem zfile_chk : FC.zero.chk = 1 := by decide
theorem rescue_zero (w : World) : Calls Tryz.prog 22 #[.agg zFile] w (RcIs 1 0 0 [] [] w) :=
 rescDec_bad zFile zFile_size 1 (by decide) w (fun W _ => by
  have := FC.zero.check zero_shaped (.slice none 0 0) (.slice none 0 0) (.slice none 0 0) W (zero_at W)
  rw [zfile_chk] at this
  exact this)
set_option maxHeartbeats 1000000 in

section
open Go.RowKit Go.ChangeShapes Go.WideShapes Go.ChangeAt
section
variable {H : Type} {enc : TypeId × Value → H} {w : World} {base : Nat} {spare : Nat → Bool} {held : Bool}
theorem trod_struct7 {P : Program} {t : TypeId} {f0 f1 f2 f3 f4 f5 f6 : Field} {fuel : Nat} {cs : List Value} {x : DataW H × List MemPlace} (ht : P.underlying t = some (.struct #[f0, f1, f2, f3, f4, f5, f6])) (h : DataW.trod enc P w base spare held fuel t cs = some x) :
 ∃ y0 y1 y2 y3 y4 y5 y6 n, cs.length = P.cellsOf t ∧ DataW.trod enc P w base spare held n f0.type ((cs.drop f0.offset).take (P.cellsOf f0.type)) = some y0 ∧
  DataW.trod enc P w base spare held n f1.type ((cs.drop f1.offset).take (P.cellsOf f1.type)) = some y1 ∧ DataW.trod enc P w base spare held n f2.type ((cs.drop f2.offset).take (P.cellsOf f2.type)) = some y2 ∧
  DataW.trod enc P w base spare held n f3.type ((cs.drop f3.offset).take (P.cellsOf f3.type)) = some y3 ∧ DataW.trod enc P w base spare held n f4.type ((cs.drop f4.offset).take (P.cellsOf f4.type)) = some y4 ∧
  DataW.trod enc P w base spare held n f5.type ((cs.drop f5.offset).take (P.cellsOf f5.type)) = some y5 ∧ DataW.trod enc P w base spare held n f6.type ((cs.drop f6.offset).take (P.cellsOf f6.type)) = some y6 := by
 obtain ⟨xs, n, _, rfl, hl, hlen, hf⟩ := DataW.trod_struct ht h
 match xs, hlen with
 | [y0, y1, y2, y3, y4, y5, y6], _ => exact ⟨y0, y1, y2, y3, y4, y5, y6, n, hl, by simpa using hf 0 f0 rfl, by simpa using hf 1 f1 rfl, by simpa using hf 2 f2 rfl, by simpa using hf 3 f3 rfl, by simpa using hf 4 f4 rfl, by simpa using hf 5 f5 rfl, by simpa using hf 6 f6 rfl⟩
theorem cellsTbls : Tryz.prog.cellsOf 44 = 34 := by kernel_rfl
theorem cellsFile : Tryz.prog.cellsOf 47 = 103 := by kernel_rfl
theorem cellsBy : Tryz.prog.cellsOf 45 = 1 := by kernel_rfl
theorem open_tableX {fuel : Nat} {cs : List Value} {x : DataW H × List MemPlace} (hL : cs.length = 17) (hf : DataW.trod enc Tryz.prog w base spare held fuel 42 cs = some x) :
 ∃ (zs xs : List Int) (sl : Value), cs = tblL zs sl ∧ zs.length = 16 ∧ SL w 1 sl xs.length (ints xs) := by
 obtain ⟨y0, y1, n, -, hlen, h0, h1⟩ := trod_struct2 Tryz.underlying42 hf
 dsimp only at h0 h1
 obtain ⟨zs, hz, hc, hq⟩ := trod_ints_arr Tryz.underlying40 Tryz.underlying3 cellsInt cells16 h0
 obtain ⟨xs, sl, hs, hsl, hxq⟩ := open_intsX h1
 rw [cells16, List.drop_zero] at hc
 rw [cellsSl] at hs
 refine ⟨zs, xs, sl, ?_, hz, hsl⟩
 have e2 : cs.drop 16 = [sl] := by
  rw [← hs]
  rw [List.take_of_length_le (by rw [List.length_drop, hL]; omega)]
 unfold tblL
 rw [← hc, ← e2, List.take_append_drop]
theorem parts_of (cs : List Value) (hL : cs.length = 103) {a b c e f : Value} {q t1 t2 : List Value} (h0 : (cs.drop 0).take 1 = [a]) (h1 : (cs.drop 1).take 1 = [b]) (h2 : (cs.drop 2).take 1 = [c]) (h3 : (cs.drop 3).take 64 = q)
 (h4 : (cs.drop 67).take 17 = t1) (h5 : (cs.drop 84).take 17 = t2) (h6 : (cs.drop 101).take 1 = [e]) (h7 : (cs.drop 102).take 1 = [f]) : cs = [a, b, c] ++ q ++ t1 ++ t2 ++ [e, f] := by
 have k7 : cs.drop 102 = [f] := by rw [← h7, List.take_of_length_le (by rw [List.length_drop, hL]; omega)]
 have k6 : cs.drop 101 = [e, f] := by rw [← List.take_append_drop 1 (cs.drop 101), h6, List.drop_drop]; rw [k7]; rfl
 have k5 : cs.drop 84 = t2 ++ [e, f] := by rw [← List.take_append_drop 17 (cs.drop 84), h5, List.drop_drop]; rw [k6]
 have k4 : cs.drop 67 = t1 ++ (t2 ++ [e, f]) := by rw [← List.take_append_drop 17 (cs.drop 67), h4, List.drop_drop]; rw [k5]
 have k3 : cs.drop 3 = q ++ (t1 ++ (t2 ++ [e, f])) := by rw [← List.take_append_drop 64 (cs.drop 3), h3, List.drop_drop]; rw [k4]
 have k2 : cs.drop 2 = c :: (q ++ (t1 ++ (t2 ++ [e, f]))) := by rw [← List.take_append_drop 1 (cs.drop 2), h2, List.drop_drop]; rw [k3]; rfl
 have k1 : cs.drop 1 = b :: c :: (q ++ (t1 ++ (t2 ++ [e, f]))) := by rw [← List.take_append_drop 1 (cs.drop 1), h1, List.drop_drop]; rw [k2]; rfl
 rw [← List.take_append_drop 1 cs, k1, show cs.take 1 = [a] from h0]
 simp
end
end
section
open Go.RowKit Go.ChangeShapes Go.WideShapes Go.ChangeAt
section
variable {H : Type} {enc : TypeId × Value → H} {w : World} {base : Nat} {spare : Nat → Bool} {held : Bool}
theorem open_bytesB {fuel : Nat} {cs : List Value} {x : DataW H × List MemPlace} (hf : DataW.trod enc Tryz.prog w base spare held fuel 45 cs = some x) :
 ∃ (v : Value) (bs : List Nat), cs = [v] ∧ SL w 1 v bs.length (bytesV bs) ∧ (∀ b ∈ bs, b < 256) ∧ ∀ n c, v = .slice none n c → c = 0 := by
 rcases open_ints Tryz.underlying45 Tryz.underlying5 (by kernel_rfl) hf with ⟨rfl, -⟩ | ⟨a, len, cap, zs, rfl, -, hlc, hcm, hzl, -, hcell, hwf⟩
 ·refine ⟨_, [], rfl, SL.nil w 1, by simp, ?_⟩
  intro n c e
  injection e with _ _ e
  exact e.symm
 ·have hlen : len ≤ zs.length := by rw [hzl]; split <;> omega
  obtain ⟨bs, hbs, hlt⟩ := bytes_of (zs.take len) (fun n hn => hwf n (List.mem_of_mem_take hn))
  have hl : bs.length = len := by
   have := congrArg List.length hbs
   simp [bytesV] at this
   omega
  refine ⟨_, bs, rfl, ?_, hlt, by intro n c e; injection e with e; cases e⟩
  rw [hl]
  refine ⟨some a, cap, rfl, hlc, by unfold maxLen at hcm; omega, by rw [bytesV_len, hl]; omega, fun h0 => ⟨a, rfl, ?_, fun j u hu => ?_⟩⟩
  ·have := hcell 0 (by omega)
   have h2 := World.block_lt_of_cell? w _ this
   rwa [block_of_add] at h2
  ·rw [← hbs, List.getElem?_map] at hu
   obtain ⟨z, hz, rfl⟩ := Option.map_eq_some_iff.1 hu
   have hj : j < len := by have := (List.getElem?_eq_some_iff.1 hz).1; simp at this; omega
   rw [List.getElem?_take_of_lt hj] at hz
   rw [hcell j (by omega)]
   simp [List.getD_eq_getElem?_getD, hz]
set_option maxRecDepth 20000 in
theorem open_fileB {b0 : Nat} {r : Reach} {v : Value} {d : DataW H} {p : List MemPlace} (hv : Value.okWide Tryz.prog w r b0 47 v) (h : DataW.Trod enc Tryz.prog w base spare held 47 v d p) :
 ∃ (wd hi pt ev : Int) (qs cs1 xs1 : List Int) (s1 : Value) (cs2 xs2 : List Int) (s2 : Value) (bs : List Nat) (sd : Value), v = .agg (fileL wd hi pt qs (tblL cs1 s1) (tblL cs2 s2) ev sd).toArray ∧ qs.length = 64 ∧ cs1.length = 16 ∧ cs2.length = 16 ∧
  SL w 1 s1 xs1.length (ints xs1) ∧ SL w 1 s2 xs2.length (ints xs2) ∧ SL w 1 sd bs.length (bytesV bs) ∧ (∀ b ∈ bs, b < 256) ∧ ∀ n c, sd = .slice none n c → c = 0 := by
 obtain ⟨cs, rfl, hsz⟩ := okWide_struct Tryz.underlying47 hv
 obtain ⟨fuel, hf⟩ := h
 obtain ⟨y0, y1, y2, y3, y4, y5, y6, n, hlen, h0, h1, h2, h3, h4, h5, h6⟩ := trod_struct7 Tryz.underlying47 hf
 have hL : cs.toList.length = 103 := by rw [show cs.toList.length = cs.size by simp, hsz, cellsFile]
 have hcs : (Value.agg cs).cells.toList = cs.toList := rfl
 rw [hcs] at h0 h1 h2 h3 h4 h5 h6
 dsimp only at h0 h1 h2 h3 h4 h5 h6
 rw [cellsInt] at h0 h1 h2 h5
 rw [cells64] at h3
 rw [cellsTbls] at h4
 rw [cellsBy] at h6
 obtain ⟨wd, e0, -⟩ := trod_int_cell Tryz.underlying3 h0
 obtain ⟨hi, e1, -⟩ := trod_int_cell Tryz.underlying3 h1
 obtain ⟨pt, e2, -⟩ := trod_int_cell Tryz.underlying3 h2
 obtain ⟨ev, e5, -⟩ := trod_int_cell Tryz.underlying3 h5
 obtain ⟨qs, hq, e3, -⟩ := trod_ints_arr Tryz.underlying33 Tryz.underlying3 cellsInt cells64 h3
 obtain ⟨z0, z1, m, -, hlen4, g0, g1⟩ := trod_struct2 Tryz.underlying44 h4
 dsimp only at g0 g1
 rw [cellsTbl, List.drop_zero, List.take_take] at g0
 rw [cellsTbl, List.drop_take, List.take_take, List.drop_drop] at g1
 obtain ⟨cs1, xs1, s1, e4, hc1, hs1⟩ := open_tableX (by rw [List.length_take, List.length_drop, hL]; rfl) g0
 obtain ⟨cs2, xs2, s2, e6, hc2, hs2⟩ := open_tableX (by rw [List.length_take, List.length_drop, hL]; rfl) g1
 obtain ⟨sd, bs, e7, hsd, hlt, hnil⟩ := open_bytesB h6
 refine ⟨wd, hi, pt, ev, qs, cs1, xs1, s1, cs2, xs2, s2, bs, sd, ?_, hq, hc1, hc2, hs1, hs2, hsd, hlt, hnil⟩
 congr 1
 apply Array.ext'
 rw [parts_of cs.toList hL e0 e1 e2 e3 e4 e6 e5 e7]
 simp [fileL, ints]
end
end
end Go.Proofs.YtkggcjdlpendfaaGreatDoor
namespace Go.Proofs.YtkggcjdlpendfaaGreatDoor.rescueDecodes
set_option linter.unusedVariables false
set_option linter.unusedSimpArgs false
open Go.RowKit
set_option maxRecDepth 20000 in
set_option maxHeartbeats 4000000 in
theorem walk (wd hi pt ev : Int) (qs cs1 xs1 : List Int) (s1 : Value) (cs2 xs2 : List Int) (s2 : Value) (bs : List Nat) (sd : Value) (hq : qs.length = 64) (h1 : cs1.length = 16) (h2 : cs2.length = 16) (hlt : ∀ b ∈ bs, b < 256) (_ : ∀ n c, sd = .slice none n c → c = 0) (m0 : Int) (w : World) (hm : w.cell? ⟨0, 0, none⟩ = some (.int .i64 m0))
 (hs1 : SL w 1 s1 xs1.length (ints xs1)) (hs2 : SL w 1 s2 xs2.length (ints xs2)) (hsd : SL w 1 sd bs.length (bytesV bs)) :
 Calls Tryz.prog 7 #[.agg (fileL wd hi pt qs (tblL cs1 s1) (tblL cs2 s2) ev sd).toArray] w fun e w' => e = .returned (.bool true) ∧ Ext w w' := by
 obtain ⟨n, hn⟩ : ∃ n, bs.length = n := ⟨_, rfl⟩
 have hsd' := hsd
 obtain ⟨A, c, rfl, -, -, -, -⟩ := hsd'
 rw [hn] at hsd ⊢
 obtain ⟨E, wd', hi', L, Y, K1, K2⟩ := rescueBoth ⟨wd, hi, pt, qs, cs1, xs1, cs2, xs2, ev, bs⟩ ⟨hq, h1, h2⟩ s1 s2 A n c hn hlt m0 w hm ⟨hs1, hs2, by show SL w 1 _ bs.length _; rw [hn]; exact hsd⟩
 have HK1 := hid_ K1
 have HK2 := hid_ K2
 have hts := hid_ (FC.size (F := ⟨wd, hi, pt, qs, cs1, xs1, cs2, xs2, ev, bs⟩) ⟨hq, h1, h2⟩ s1 s2 (.slice A n c))
 have HZ := hid_ (fun W => rescue_zero W)
 unfold RcIs at HK1 HK2 HZ
 have HPE := hid_ (fun B D k d e W h1 h2 => pictureEq_same wd' hi' B D k d e L W h1 h2)
 have HEQ := hid_ (fun u v W (a : SL W 1 u Y.length (ints Y)) (b : SL W 1 v Y.length (ints Y)) => eqInt_any u v Y Y W a b)
 rw [decide_eq_true (rfl : Y = Y)] at HEQ
 have HFB := hid_ built0F
 have HPSZ := hid_ (fun v => picV_size wd' hi' v)
 have HP1 := hid_ (fun A n c => pic_one wd' hi' A n c)
 have HPSZ0 := hid_ (fun v => picV_size 0 0 v)
 have HP10 := hid_ (fun A n c => pic_one 0 0 A n c)
 have HZP := zeroPicS
 have hz0s : Hid ((Value.agg (picV 0 0 (.slice none 0 0))).cells.size = 3) := hid_ rfl
 have e1 : (E == E) = true := by simp
 show Calls Tryz.prog 7 #[.agg (FC.cells ⟨wd, hi, pt, qs, cs1, xs1, cs2, xs2, ev, bs⟩ s1 s2 (.slice A n c))] w _
 generalize FC.cells ⟨wd, hi, pt, qs, cs1, xs1, cs2, xs2, ev, bs⟩ s1 s2 (.slice A n c) = fv at *
 generalize zFile = fz at *
 obtain ⟨pz, hpz⟩ : ∃ pz, picV 0 0 (.slice none 0 0) = pz := ⟨_, rfl⟩
 rw [hpz] at HZP hz0s
 obtain ⟨pic0, hpic0⟩ : ∃ pic0 : Value → Array Value, pic0 = picV 0 0 := ⟨_, rfl⟩
 rw [← hpic0] at HZ HPSZ0 HP10
 obtain ⟨pic, hpic⟩ : ∃ pic : Value → Array Value, pic = picV wd' hi' := ⟨_, rfl⟩
 rw [← hpic] at HK1 HK2 HPE HPSZ HP1
 clear K1 K2 hpic hpic0 hpz hsd hs1 hs2 hn hlt hm hq h1 h2
 go_enter Tryz.func7, Tryz.ntmps7
 go_wp2_with (first
  | ((with_reducible apply gS 1); refine wBox rfl 47 (.tmp 0) rfl fv rfl ?_; intro w1 gf hb1 hx1 hgf)
  | ((with_reducible apply gS 13); refine wLdB rfl 47 (.tmp 1) rfl gf rfl hb1 _ Tryz.underlying47 rfl 103 sizeFile hts.out ?_)
  | ((with_reducible apply gS 14); go_at_call 22; (with_reducible refine (HK1.out _ hx1).mono ?_); rintro e w2 ⟨B2, k2, d2, C2, j2, c2, rfl, hr2, hy2, hj2, hx2⟩; have hb2 := hb1.ext hx2; have hx02 := hx1.trans hx2)
  | (go_at_call 22; first
    | ((with_reducible refine (HK1.out _ hx1).mono ?_); rintro e w2 ⟨B2, k2, d2, C2, j2, c2, rfl, hr2, hy2, hj2, hx2⟩; have hb2 := hb1.ext hx2; have hx02 := hx1.trans hx2)
    | ((with_reducible refine (HZ.out _).mono ?_); rintro e w8 ⟨B8, k8, d8, C8, j8, c8, rfl, hr8, hy8, hj8, hx8⟩; have hpa8 := hpa.ext hx8; have hpb8 := hp7.ext hx8; have hra8 := hra.ext hx8; have hrb8 := hrb.ext hx8; have hya8 := hya.ext hx8; have hyb8 := hyb.ext hx8; have hx08 := hx07.trans hx8))
  | ((with_reducible apply gS 3); refine wAlo' rfl (some 3) rfl 31 rfl _ HZP ?_; intro w3 g3 hp3 hx3 hg3)
  | ((with_reducible apply gT 3 15); refine wStB rfl 31 (.tmp 3) (.tmp 15) rfl g3 (pic (.slice B2 k2 d2)) rfl rfl hp3 3 sizePic (HPSZ.out _) hz0s.out (HP1.out _ _ _) ?_; intro w4 hp4 hg4; have hx24 := hx3.grown hg4 hg3; have hb4 := hb2.ext hx24; have hr4 := hr2.ext hx24; have hy4 := hy2.ext hx24; have hx04 := hx02.trans hx24)
  | ((with_reducible apply gS 19); refine wLdB rfl 47 (.tmp 1) rfl gf rfl hb4 _ Tryz.underlying47 rfl 103 sizeFile hts.out ?_)
  | (go_at_call 24; (with_reducible refine (HK2.out _ hx04).mono ?_); rintro e w5 ⟨B5, k5, d5, C5, j5, c5, rfl, hr5, hy5, hj5, hx5⟩; have hp5 := hp4.ext hx5; have hr45 := hr4.ext hx5; have hy45 := hy4.ext hx5; have hx05 := hx04.trans hx5)
  | ((with_reducible apply gS 6); refine wAlo' rfl (some 6) rfl 31 rfl _ HZP ?_; intro w6 g6 hp6 hx6 hg6)
  | ((with_reducible apply gT 6 21); refine wStB rfl 31 (.tmp 6) (.tmp 21) rfl g6 (pic (.slice B5 k5 d5)) rfl rfl hp6 3 sizePic (HPSZ.out _) hz0s.out (HP1.out _ _ _) ?_; intro w7 hp7 hg7; have hx57 := hx6.grown hg7 hg6; have hpa := hp5.ext hx57; have hra := hr45.ext hx57; have hrb := hr5.ext hx57; have hya := hy45.ext hx57; have hyb := hy5.ext hx57; have hx07 := hx05.trans hx57)
  | ((with_reducible apply gS 25); refine wpList_build0_g (by rfl) 47 rfl _ HFB.out ?_)
  | ((with_reducible apply gS 9); refine wAlo' rfl (some 9) rfl 31 rfl _ HZP ?_; intro w9 g9 hp9 hx9 hg9)
  | ((with_reducible apply gT 9 27); refine wStB rfl 31 (.tmp 9) (.tmp 27) rfl g9 (pic0 (.slice B8 k8 d8)) rfl rfl hp9 3 sizePic (HPSZ0.out _) hz0s.out (HP10.out _ _ _) ?_; intro w10 hp10 hg10; have hx810 := hx9.grown hg10 hg9; have hpa10 := hpa8.ext hx810; have hpb10 := hpb8.ext hx810; have hra10 := hra8.ext hx810; have hrb10 := hrb8.ext hx810; have hya10 := hya8.ext hx810; have hyb10 := hyb8.ext hx810; have hx010 := hx08.trans hx810)
  | ((with_reducible apply gS 30); refine wLdB rfl 31 (.tmp 3) rfl g3 rfl hpa10 _ Tryz.underlying31 rfl 3 sizePic (HPSZ.out _) ?_)
  | ((with_reducible apply gS 31); refine wLdB rfl 31 (.tmp 6) rfl g6 rfl hpb10 _ Tryz.underlying31 rfl 3 sizePic (HPSZ.out _) ?_)
  | (go_at_call 25; obtain rfl : k2 = k5 := (hra10.len.symm.trans hrb10.len); (with_reducible refine (HPE.out _ _ _ _ _ _ hra10 hrb10).mono ?_); rintro e w11 ⟨rfl, hx11⟩; have hya11 := hya10.ext hx11; have hyb11 := hyb10.ext hx11; rw [← hj2] at hya11; rw [← hj5] at hyb11)
  | (go_at_call 26; obtain rfl := hj2; obtain rfl := hj5; (with_reducible refine (HEQ.out _ _ _ hya11 hyb11).mono ?_); rintro e w12 ⟨rfl, rfl⟩)
  | ((with_reducible apply gS 41); refine wl_run_g (by rfl) (.bool true) (ex_eql rfl rfl rfl e1) ?_))
 go_ret
 exact ⟨rfl, hx010.trans hx11⟩
end Go.Proofs.YtkggcjdlpendfaaGreatDoor.rescueDecodes
namespace Go.Proofs.YtkggcjdlpendfaaGreatDoor
set_option linter.unusedVariables false
set_option linter.unusedSimpArgs false
open Go.RowKit
section
open Go.RowKit Go.ChangeShapes Go.WideShapes Go.ChangeAt
theorem own : ownKnob Tryz.prog.godebug = none := by kernel_rfl
theorem laidOut : laidOutB Tryz.prog = true := by kernel_rfl
section
variable {H : Type} {enc : TypeId × Value → H} {P : Program}
theorem below_trodAll (hl : laidOutB P = true) {W W' : World} (hb : Below W.heap.size W W') : ∀ {ts : List TypeId} {vs : List Value} {ds : List (DataW H)} {ps : List MemPlace},
 (∀ t ∈ ts, P.readableRec t = true ∧ t < P.types.size) → DataW.TrodAll enc P W 0 (fun _ => true) true ts vs ds ps → (∀ x ∈ ps, x.block < W.heap.size) →
 DataW.TrodAll enc P W' 0 (fun b => decide (b < W.heap.size)) true ts vs ds ps
 | [], _, _, _, _, h, _ => by
   obtain ⟨rfl, rfl, rfl⟩ := trodAll_nil h
   exact trodAll_mk0
 | t :: ts, vs, ds, ps, hr, h, hlt => by
   obtain ⟨v, vs1, d, ds1, a, b, rfl, rfl, rfl, h1, h2⟩ := trodAll_cons h
   exact ⟨a, b, Below.trod hl (hr t (by simp)).1 (hr t (by simp)).2 h1 hb (fun x hx => hlt x (by simp [hx])),
    below_trodAll hl hb (fun t ht => hr t (by simp [ht])) h2 (fun x hx => hlt x (by simp [hx])), rfl⟩
theorem law_post {f : Func} {s : ChangeSpec} {W W' : World} {args : Array Value} {ds gs : List (DataW H)} {before : List MemPlace}
 (hl : laidOutB P = true) (tb : TypeId) (htb : P.underlying tb = some .bool) (hft : f.resultTypes = #[tb]) (hvars : s.vars = [])
 (hr : ∀ t ∈ f.params.toList, P.readableRec t = true ∧ t < P.types.size)
 (hW : DataW.Whole enc P f.params.toList s.vars false W args.toList ds gs before)
 (hfn : s.fn H (ds ++ gs) = { results := [.lit (.bool true)], args := ds })
 (hb : Ext W W') : s.post enc P f false true false false W args (.bool true) W' := by
 have hlt : ∀ p ∈ before, p.block < W.heap.size := fun p hp => by simpa using hW.lt p hp
 have hW' := hW
 obtain ⟨p, q, hA, hV, rfl, hfz, hnd⟩ := hW
 rw [hvars] at hV
 obtain ⟨rfl, rfl⟩ := trodVars_none hV
 simp only [List.append_nil] at hlt hW'
 refine ⟨ds, [], p, [], p, [], hW', ?_, ?_, ?_, ?_, fun h => by cases h⟩
 ·rw [hft, hfn]
  exact trodAll_cons_mk (shut_bool htb _) trodAll_mk0
 ·rw [hfn]
  exact below_trodAll hl hb hr hA hlt
 ·rw [hfn, hvars]
  rfl
 ·exact World.keptBut_mono (fun p hp => ⟨hp, Or.inr (Or.inl hp)⟩) (hb.frame (· ∈ p))
end
end
section
open Go.ChangeShapes Go.WideShapes Go.ChangeAt Go.RowKit
theorem maxLen_cell {W : World} (h : W.ShapedOpen Tryz.prog) : ∃ m, W.cell? ⟨0, 0, none⟩ = some (.int .i64 m) :=
 Go.Proofs.cell_of_shapedOpen_int (zero := #[.int .i64 0]) (t := 3) h (of_decide_eq_true (by kernel_rfl)) (by kernel_rfl) rfl (by kernel_rfl) (by kernel_rfl) Tryz.underlying3
def layCells (cs : Array Value) : Obj → Obj
 | .cells _ t frozen => .cells cs t frozen
 | o => o
noncomputable def laidWorld (os : Os) : World :=
 { World.holding Tryz.prog os ⟨#[], #[], []⟩ with
  heap := ((World.holding Tryz.prog os ⟨#[], #[], []⟩).heap.modify 1 (layCells (Go.Pinned.utf8FirstZ.map fun n : Nat => Value.int .u8 n).toArray)).modify 2
   (layCells (([128, 191, 160, 191, 128, 159, 144, 191, 128, 143, 0, 0, 0, 0, 0, 0, 0, 0, 0, 0, 0, 0, 0, 0, 0, 0, 0, 0, 0, 0, 0, 0] : List Nat).map fun n : Nat => Value.int .u8 n).toArray) }
end
end Go.Proofs.YtkggcjdlpendfaaGreatDoor
