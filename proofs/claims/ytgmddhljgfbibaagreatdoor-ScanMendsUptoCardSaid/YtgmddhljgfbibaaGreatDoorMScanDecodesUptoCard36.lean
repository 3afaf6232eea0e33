/- Contracts for the law ScanDecodesUptoCard, part 36: what the functions that it reaches answer, for all arguments that the theorems name. -/
import Derived.Test.YtgmddhljgfbibaaGreatDoorMScanDecodesUptoCard2
import Derived.Test.YtgmddhljgfbibaaGreatDoorMScanDecodesUptoCard10
import Derived.Test.YtgmddhljgfbibaaGreatDoorMScanDecodesUptoCard4
import Derived.Test.YtgmddhljgfbibaaGreatDoorMScanDecodesUptoCard18
import Derived.Test.YtgmddhljgfbibaaGreatDoorMScanDecodesUptoCard35
import Derived.Test.YtgmddhljgfbibaaGreatDoorMScanDecodesUptoCard23
import Derived.Test.YtgmddhljgfbibaaGreatDoorRows
import Derived.Test.YtgmddhljgfbibaaGreatDoorMScanDecodesUptoCard1
import Derived.ProofKit
import Derived.OpenShut
import Derived.JoinedCond
import Derived.Test.YtgmddhljgfbibaaGreatDoorCards
import Derived.Test.YtgmddhljgfbibaaGreatDoorTie
import Derived.WalkKit
import Derived.Deep.DeepHandedRow
import Derived.Lib.LaidTab
import Derived.Shelf.Vars
/- Eq[api.Block] of the reference: two lists of the same blocks. -/
namespace Go.Proofs.YtgmddhljgfbibaaGreatDoor
set_option linter.unusedVariables false
set_option linter.unusedSimpArgs false
open Go.RowKit
theorem bv_all_one (zs : List Int) : (ints zs).toArray.all (·.oneCell') = true := bv_one zs
theorem zeroBlk : ∃ z : Array Value, (Tryz.prog.info? 37).bind (·.zero) = some (.agg z) ∧ z.size = 64 := ⟨bv (List.replicate 64 0), by kernel_rfl, by simp [bv_size]⟩
set_option maxRecDepth 20000 in
set_option maxHeartbeats 1000000 in
theorem eqBlocks_same (u v : Value) (n : Nat) (Z : List Int) (w : World) (hz : Z.length = n * 64) (hu : SL w 64 u n (ints Z)) (hv : SL w 64 v n (ints Z)) :
    Calls Tryz.prog 8 #[u, v] w fun e w' => e = .returned (.bool true) ∧ Ext w w' := by
  have HZ := hid_ hz
  clear hz
  obtain ⟨zc, hzc, hz64⟩ := zeroBlk
  have HZC := hid_ hzc
  have HZ64 := hid_ hz64
  clear hzc hz64
  have hu' := hu
  have hv' := hv
  obtain ⟨A, c, rfl, hc1, hc2, -, -⟩ := hu'
  obtain ⟨B, d, rfl, hd1, hd2, -, -⟩ := hv'
  go_enter Tryz.func8, Tryz.ntmps8
  go_wp2_with fail
  go_loopw [14] (fun i wr => ∃ k : Nat, k ≤ n ∧ i = .int .i64 k ∧ Ext w wr) (fun i _ => n - (intOf i).toNat)
  case atStart => exact ⟨0, by omega, rfl, Ext.refl w⟩
  case round =>
    obtain ⟨k, hk, rfl, hx⟩ := hrel
    by_cases hlt : k < n
    · obtain ⟨ad, rfl, hab, hca⟩ := (hu.ext hx).part hlt
      obtain ⟨bd, rfl, hbb, hcb⟩ := (hv.ext hx).part hlt
      have e : ((ints Z).drop (k * 64)).take 64 = ints ((Z.drop (k * 64)).take 64) := by simp [ints, List.map_drop, List.map_take]
      have hl : ((Z.drop (k * 64)).take 64).length = 64 := by rw [List.length_take, List.length_drop, HZ.out]; omega
      rw [e] at hca hcb
      clear e
      generalize (Z.drop (k * 64)).take 64 = zs at *
      have HL := hid_ hl
      clear hl
      have HCA := hid_ hca
      have HS64 : Hid ((ints zs).toArray.size = 64) := hid_ (by simp [ints_len, HL.out])
      have HO := hid_ (bv_all_one zs)
      clear hca
      go_wp2_with (first
        | (refine wpList_load_any (by rfl) 37 (.tmp 17) rfl (ad.add (k * 64)) rfl (ints zs) _ HCA.out Tryz.underlying37 rfl (by rw [ints_len, HL.out]; exact size48) ?_)
        | (refine wpList_alloc_abs' rfl (some 6) rfl 37 rfl _ HZC.out ?_; intro w2 g2 hb2 hx2 hg2)
        | (refine wpList_store_blk rfl 37 (.tmp 6) (.tmp 18) rfl _ _ rfl rfl hb2 64 size48 HS64.out HZ64.out HO.out ?_; intro w3 hb3 hg3; have hx3 := hx2.grown hg3 (by omega)))
      have hx3' := hx3.drew
      have hb3' := hb3.drew
      have HCB : Hid (∀ W, Ext w3.drew W → CellsAt W (bd.add (k * 64)) (ints zs)) := hid_ (fun W hW j q hq => by
        rw [((hx3'.trans hW).cell (p := (bd.add (k * 64)).add j) (by rw [block_of_add, block_of_add]; exact hbb))]
        exact hcb j q hq)
      refine wp_region_lx later_ext (by kernel_rfl) (by kernel_rfl) ?_
      refine lx_load_blk (by rfl) 37 (.tmp 6) rfl g2 rfl (fun w h => hb3'.ext h) _ Tryz.underlying37 rfl 64 size48 HS64.out ?_
      simp only [Act.put, List.setIfInBounds_toArray, List.set_cons_succ, List.set_cons_zero]
      iterate 3 (refine lx_ex (by rfl) ?_; apply Exists.intro; refine ⟨fun w hw => ?_, ?_⟩; · (go_simp; with_reducible rfl)
                 simp only [Act.put, List.setIfInBounds_toArray, List.set_cons_succ, List.set_cons_zero])
      refine lx_load_any (by rfl) 37 (.tmp 22) rfl (bd.add (k * 64)) rfl (ints zs) _ HCB.out Tryz.underlying37 rfl (by rw [ints_len, HL.out]; exact size48) ?_
      simp only [Act.put, List.setIfInBounds_toArray, List.set_cons_succ, List.set_cons_zero]
      refine lx_binOp (by rfl) .neq 37 _ _ _ rfl (.agg (bv zs)) (.agg (bv zs)) rfl rfl (.bool false) (fun W => run_guard48 W _ _ _ _ _) (fun W => by rw [run_neq48 W zs zs HL.out HL.out]; simp) ?_
      simp only [Act.put, List.setIfInBounds_toArray, List.set_cons_succ, List.set_cons_zero]
      refine lx_nil ?_
      intro w4 hx4
      go_wp2_with fail
      go_roundw
      case rel => exact ⟨k + 1, by omega, by go_num, (hx.trans hx3').trans hx4⟩
      case measure => simp [intOf]; omega
    · go_wp2_with fail
      go_ret
      exact ⟨rfl, hx⟩
end Go.Proofs.YtgmddhljgfbibaaGreatDoor
/- Opening a parameter that is a file. -/
namespace Go.Proofs.YtgmddhljgfbibaaGreatDoor
set_option linter.unusedVariables false
set_option linter.unusedSimpArgs false
open Go.RowKit Go.ChangeShapes Go.WideShapes Go.ChangeAt
section
variable {H : Type} {enc : TypeId × Value → H} {w : World} {base : Nat} {spare : Nat → Bool} {held : Bool}
theorem trod_struct7 {P : Program} {t : TypeId} {f0 f1 f2 f3 f4 f5 f6 : Field} {fuel : Nat} {cs : List Value} {x : DataW H × List MemPlace} (ht : P.underlying t = some (.struct #[f0, f1, f2, f3, f4, f5, f6])) (h : DataW.trod enc P w base spare held fuel t cs = some x) :
    ∃ y0 y1 y2 y3 y4 y5 y6 n, cs.length = P.cellsOf t ∧ DataW.trod enc P w base spare held n f0.type ((cs.drop f0.offset).take (P.cellsOf f0.type)) = some y0 ∧
      DataW.trod enc P w base spare held n f1.type ((cs.drop f1.offset).take (P.cellsOf f1.type)) = some y1 ∧ DataW.trod enc P w base spare held n f2.type ((cs.drop f2.offset).take (P.cellsOf f2.type)) = some y2 ∧
      DataW.trod enc P w base spare held n f3.type ((cs.drop f3.offset).take (P.cellsOf f3.type)) = some y3 ∧ DataW.trod enc P w base spare held n f4.type ((cs.drop f4.offset).take (P.cellsOf f4.type)) = some y4 ∧
      DataW.trod enc P w base spare held n f5.type ((cs.drop f5.offset).take (P.cellsOf f5.type)) = some y5 ∧ DataW.trod enc P w base spare held n f6.type ((cs.drop f6.offset).take (P.cellsOf f6.type)) = some y6 := by
  obtain ⟨xs, n, _, rfl, hl, hlen, hf⟩ := DataW.trod_struct ht h
  match xs, hlen with
  | [y0, y1, y2, y3, y4, y5, y6], _ => exact ⟨y0, y1, y2, y3, y4, y5, y6, n, hl, by simpa using hf 0 f0 rfl, by simpa using hf 1 f1 rfl, by simpa using hf 2 f2 rfl, by simpa using hf 3 f3 rfl, by simpa using hf 4 f4 rfl, by simpa using hf 5 f5 rfl, by simpa using hf 6 f6 rfl⟩
theorem cellsTbls : Tryz.prog.cellsOf 27 = 34 := by kernel_rfl
theorem cellsBy : Tryz.prog.cellsOf 28 = 1 := by kernel_rfl
theorem open_tableX {fuel : Nat} {cs : List Value} {x : DataW H × List MemPlace} (hL : cs.length = 17) (hf : DataW.trod enc Tryz.prog w base spare held fuel 25 cs = some x) :
    ∃ (zs xs : List Int) (sl : Value), cs = tblL zs sl ∧ zs.length = 16 ∧ SL w 1 sl xs.length (ints xs) := by
  obtain ⟨y0, y1, n, -, hlen, h0, h1⟩ := trod_struct2 Tryz.underlying25 hf
  dsimp only at h0 h1
  obtain ⟨zs, hz, hc, hq⟩ := trod_ints_arr Tryz.underlying22 Tryz.underlying3 cellsInt cells16 h0
  obtain ⟨xs, sl, hs, hsl, hxq⟩ := open_intsX h1
  rw [cells16, List.drop_zero] at hc
  rw [cellsSl] at hs
  refine ⟨zs, xs, sl, ?_, hz, hsl⟩
  have e2 : cs.drop 16 = [sl] := by
    rw [← hs]
    rw [List.take_of_length_le (by rw [List.length_drop, hL]; omega)]
  unfold tblL
  rw [← hc, ← e2, List.take_append_drop]
theorem open_bytesX {fuel : Nat} {cs : List Value} {x : DataW H × List MemPlace} (hf : DataW.trod enc Tryz.prog w base spare held fuel 28 cs = some x) :
    ∃ (v : Value) (bs : List Nat), cs = [v] ∧ SL w 1 v bs.length (bytesV bs) := by
  rcases open_ints Tryz.underlying28 Tryz.underlying5 (by kernel_rfl) hf with ⟨rfl, -⟩ | ⟨a, len, cap, zs, rfl, -, hlc, hcm, hzl, -, hcell, hwf⟩
  · exact ⟨_, [], rfl, SL.nil w 1⟩
  · have hlen : len ≤ zs.length := by rw [hzl]; split <;> omega
    obtain ⟨bs, hbs, hlt⟩ := bytes_of (zs.take len) (fun n hn => hwf n (List.mem_of_mem_take hn))
    have hl : bs.length = len := by
      have := congrArg List.length hbs
      simp [bytesV] at this
      omega
    refine ⟨_, bs, rfl, ?_⟩
    rw [hl]
    refine ⟨some a, cap, rfl, hlc, by unfold maxLen at hcm; omega, by rw [bytesV_len, hl]; omega, fun h0 => ⟨a, rfl, ?_, fun j u hu => ?_⟩⟩
    · have := hcell 0 (by omega)
      have h2 := World.block_lt_of_cell? w _ this
      rwa [block_of_add] at h2
    · rw [← hbs, List.getElem?_map] at hu
      obtain ⟨z, hz, rfl⟩ := Option.map_eq_some_iff.1 hu
      have hj : j < len := by have := (List.getElem?_eq_some_iff.1 hz).1; simp at this; omega
      rw [List.getElem?_take_of_lt hj] at hz
      rw [hcell j (by omega)]
      simp [List.getD_eq_getElem?_getD, hz]
theorem one_at {cs : List Value} {i : Nat} {v : Value} (h : (cs.drop i).take 1 = [v]) : cs[i]? = some v := by
  have := congrArg (·[0]?) h
  simpa using this
theorem parts_of (cs : List Value) (hL : cs.length = 103) {a b c e f : Value} {q t1 t2 : List Value} (h0 : (cs.drop 0).take 1 = [a]) (h1 : (cs.drop 1).take 1 = [b]) (h2 : (cs.drop 2).take 1 = [c]) (h3 : (cs.drop 3).take 64 = q)
    (h4 : (cs.drop 67).take 17 = t1) (h5 : (cs.drop 84).take 17 = t2) (h6 : (cs.drop 101).take 1 = [e]) (h7 : (cs.drop 102).take 1 = [f]) : cs = [a, b, c] ++ q ++ t1 ++ t2 ++ [e, f] := by
  have k7 : cs.drop 102 = [f] := by rw [← h7, List.take_of_length_le (by rw [List.length_drop, hL]; omega)]
  have k6 : cs.drop 101 = [e, f] := by rw [← List.take_append_drop 1 (cs.drop 101), h6, List.drop_drop]; rw [k7]; rfl
  have k5 : cs.drop 84 = t2 ++ [e, f] := by rw [← List.take_append_drop 17 (cs.drop 84), h5, List.drop_drop]; rw [k6]
  have k4 : cs.drop 67 = t1 ++ (t2 ++ [e, f]) := by rw [← List.take_append_drop 17 (cs.drop 67), h4, List.drop_drop]; rw [k5]
  have k3 : cs.drop 3 = q ++ (t1 ++ (t2 ++ [e, f])) := by rw [← List.take_append_drop 64 (cs.drop 3), h3, List.drop_drop]; rw [k4]
  have k2 : cs.drop 2 = c :: (q ++ (t1 ++ (t2 ++ [e, f]))) := by rw [← List.take_append_drop 1 (cs.drop 2), h2, List.drop_drop]; rw [k3]; rfl
  have k1 : cs.drop 1 = b :: c :: (q ++ (t1 ++ (t2 ++ [e, f]))) := by rw [← List.take_append_drop 1 (cs.drop 1), h1, List.drop_drop]; rw [k2]; rfl
  rw [← List.take_append_drop 1 cs, k1, show cs.take 1 = [a] from h0]
  simp
set_option maxRecDepth 20000 in
theorem open_tables {b0 : Nat} {r : Reach} {v : Value} {d : DataW H} {p : List MemPlace} (hv : Value.okWide Tryz.prog w r b0 27 v) (h : DataW.Trod enc Tryz.prog w base spare held 27 v d p) :
    ∃ (cs1 xs1 : List Int) (s1 : Value) (cs2 xs2 : List Int) (s2 : Value), v = .agg (tblL cs1 s1 ++ tblL cs2 s2).toArray ∧ cs1.length = 16 ∧ cs2.length = 16 ∧ SL w 1 s1 xs1.length (ints xs1) ∧ SL w 1 s2 xs2.length (ints xs2) := by
  obtain ⟨cs, rfl, hsz⟩ := okWide_struct Tryz.underlying27 hv
  obtain ⟨fuel, hf⟩ := h
  obtain ⟨z0, z1, m, -, hlen4, g0, g1⟩ := trod_struct2 Tryz.underlying27 hf
  have hL : cs.toList.length = 34 := by rw [show cs.toList.length = cs.size by simp, hsz, cellsTbls]
  have hcs : (Value.agg cs).cells.toList = cs.toList := rfl
  rw [hcs] at g0 g1
  dsimp only at g0 g1
  rw [cellsTbl, List.drop_zero] at g0
  rw [cellsTbl] at g1
  obtain ⟨cs1, xs1, s1, e4, hc1, hs1⟩ := open_tableX (by rw [List.length_take, hL]; rfl) g0
  obtain ⟨cs2, xs2, s2, e6, hc2, hs2⟩ := open_tableX (by rw [List.length_take, List.length_drop, hL]; rfl) g1
  refine ⟨cs1, xs1, s1, cs2, xs2, s2, ?_, hc1, hc2, hs1, hs2⟩
  congr 1
  apply Array.ext'
  show cs.toList = _
  rw [List.take_of_length_le (by rw [List.length_drop, hL]; omega)] at e6
  rw [← List.take_append_drop 17 cs.toList, e4, e6]
end
end Go.Proofs.YtgmddhljgfbibaaGreatDoor
/- Slices of bytes that came in without an address. -/
namespace Go.Proofs.YtgmddhljgfbibaaGreatDoor
set_option linter.unusedVariables false
set_option linter.unusedSimpArgs false
open Go.RowKit
section
open Go.ChangeShapes Go.WideShapes Go.ChangeAt
variable {H : Type} {enc : TypeId × Value → H} {w : World} {base : Nat} {spare : Nat → Bool} {held : Bool}
set_option maxRecDepth 20000 in
/-- a slice of bytes that came in and has no address has no room -/
theorem open_bytes_nil {b0 : Nat} {r : Reach} {v : Value} {d : DataW H} {p : List MemPlace} (hv : Value.okWide Tryz.prog w r b0 28 v) (h : DataW.Trod enc Tryz.prog w base spare held 28 v d p) :
    ∀ n c, v = .slice none n c → c = 0 := by
  obtain ⟨fuel, hf⟩ := h
  rcases open_ints Tryz.underlying28 Tryz.underlying5 (by kernel_rfl) hf with ⟨hcs, -⟩ | ⟨a, len, cap, zs, hcs, -, hlc, hcm, hzl, -, hcell, hwf⟩
  · obtain rfl := slice_value Tryz.underlying28 hv hcs (by simp)
    intro n c e
    injection e with _ _ e
    exact e.symm
  · obtain rfl := slice_value Tryz.underlying28 hv hcs (by simp)
    intro n c e
    injection e with e
    cases e
end
end Go.Proofs.YtgmddhljgfbibaaGreatDoor
/- The law ScanDecodes, walked. -/
namespace Go.Proofs.YtgmddhljgfbibaaGreatDoor.scanDecodes
set_option linter.unusedVariables false
set_option linter.unusedSimpArgs false
open Go.RowKit
attribute [local irreducible] bytesV
set_option maxRecDepth 20000 in
set_option maxHeartbeats 2000000 in
theorem walk (cs1 xs1 : List Int) (s1 : Value) (cs2 xs2 : List Int) (s2 : Value) (l1 : cs1.length = 16) (l2 : cs2.length = 16) (v : Value) (bs : List Nat) (hlt : ∀ b ∈ bs, b < 256) (hub : bs.length ≤ 1048576) (hA : ∀ n c, v = .slice none n c → c = 0) (nn : Int) (_ : (Lit.int .i64 nn).wf = true) (ev : Int) (_ : (Lit.int .i64 ev).wf = true) (m0 : Int) (w : World) (hm : w.cell? ⟨0, 0, none⟩ = some (.int .i64 m0))
    (hs1 : SL w 1 s1 xs1.length (ints xs1)) (hs2 : SL w 1 s2 xs2.length (ints xs2)) (hs : SL w 1 v bs.length (bytesV bs)) :
    Calls Tryz.prog 3 #[.agg (tblL cs1 s1 ++ tblL cs2 s2).toArray, v, .int .i64 nn, .int .i64 ev] w fun e w' => e = .returned (.bool true) ∧ Ext w w' := by
  obtain ⟨n, hn⟩ : ∃ n, bs.length = n := ⟨_, rfl⟩
  rw [hn] at hs hub
  have hs' := hs
  obtain ⟨A, c, rfl, -, -, -, -⟩ := hs'
  obtain ⟨r, -, K1, K2⟩ := scanBothD cs1 xs1 cs2 xs2 s1 s2 l1 l2 A n c bs nn ev hlt hub m0 w hm hs1 hs2 hs
  have H1 := hid_ K1
  have H2 := hid_ K2
  have hsz := hid_ (tblsWhole (tblL_len cs1 s1 l1) (tblL_len cs2 s2 l2))
  generalize (tblL cs1 s1 ++ tblL cs2 s2).toArray = tt at *
  have H3 := hid_ (fun W => scanEnc_range tt (.slice none 0 0) (-1) W (.inl (by omega)))
  obtain ⟨X, hX⟩ : ∃ X, X = if r.1 = 0 then r.2 else [] := ⟨_, rfl⟩
  have HA : Hid (∀ W e W', DecIs r W e W' → ∃ B k d, e = .returned (.tuple #[.slice B k d, .int .i64 r.1]) ∧ X.length = k * 64 ∧ SL W' 64 (.slice B k d) k (ints X) ∧ Ext W W') := hid_ (fun W e W' h => by rw [hX]; exact h.any)
  have HN : Hid (∀ W e W', SegIs (1, []) W e W' → e = .returned (.tuple #[.slice none 0 0, .int .i64 1]) ∧ Ext W W') := hid_ (fun W e W' h => by
    obtain ⟨hx, h⟩ := h
    rw [if_neg (by decide)] at h
    exact ⟨h, hx⟩)
  obtain ⟨x, q⟩ := r
  dsimp only at HA
  have e1 : (x == x) = true := by simp
  have HEQ := hid_ (fun B C k c d W (hk : X.length = k * 64) (h1 : SL W 64 (.slice B k c) k (ints X)) (h2 : SL W 64 (.slice C k d) k (ints X)) => eqBlocks_same (.slice B k c) (.slice C k d) k X W hk h1 h2)
  clear K1 K2 hs hs1 hs2 hm hn hX l1 l2 hlt hub hA
  go_enter Tryz.func3, Tryz.ntmps3
  go_wp2_with (first
    | (show wpList _ _ _ (⟨some 4, _, _, _, _, _⟩ :: _) _ _; refine wpList_box_abs rfl 27 (.tmp 0) rfl tt rfl ?_; intro w1 g hb1 hx1 hg1)
    | (show wpList _ _ _ (⟨some 16, _, _, _, _, _⟩ :: _) _ _; refine wpList_load_blk rfl 27 (.tmp 4) rfl g rfl hb1 _ Tryz.underlying27 rfl 34 sizeTbls hsz.out ?_)
    | (go_at_call 5; (with_reducible refine (H1.out _ hx1).mono ?_); intro e w2 h2; obtain ⟨B2, k2, d2, rfl, hk2, hs2, hx2⟩ := HA.out _ _ _ h2; have hx2' := hx1.trans hx2)
    | (show wpList _ _ _ (⟨some 24, _, _, _, _, _⟩ :: _) _ _; refine wpList_load_blk rfl 27 (.tmp 4) rfl g rfl (hb1.ext hx2) _ Tryz.underlying27 rfl 34 sizeTbls hsz.out ?_)
    | (go_at_call 6; (with_reducible refine (H2.out _ hx2').mono ?_); intro e w3 h3; obtain ⟨B3, k3, d3, rfl, hk3, hs3, hx3⟩ := HA.out _ _ _ h3; have hx3' := hx2'.trans hx3; obtain rfl : k2 = k3 := by omega)
    | (show wpList _ _ _ (⟨some 32, _, _, _, _, _⟩ :: _) _ _; refine wpList_load_blk rfl 27 (.tmp 4) rfl g rfl ((hb1.ext hx2).ext hx3) _ Tryz.underlying27 rfl 34 sizeTbls hsz.out ?_)
    | (go_at_call 7; (with_reducible refine (H3.out _).mono ?_); intro e w5 h5; obtain ⟨rfl, hx5⟩ := HN.out _ _ _ h5)
    | (go_at_call 8; (with_reducible refine (HEQ.out _ _ _ _ _ _ hk2 ((hs2.ext hx3).ext hx5) (hs3.ext hx5)).mono ?_); rintro e w7 ⟨rfl, hx7⟩))
  go_ret
  exact ⟨rfl, (hx3'.trans hx5).trans hx7⟩
end Go.Proofs.YtgmddhljgfbibaaGreatDoor.scanDecodes
/- What the bound of an ..UptoSaid gives. -/
namespace Go.Proofs.YtgmddhljgfbibaaGreatDoor
set_option linter.unusedVariables false
set_option linter.unusedSimpArgs false
open Go.RowKit Go.ChangeShapes Go.WideShapes Go.ChangeAt
section
variable {H : Type}
theorem bulk_pos (d : DataW H) : 1 ≤ Rows.uptoBulk d := by
  cases d with
  | lit l => cases l <;> simp [Rows.uptoBulk]
  | _ => simp [Rows.uptoBulk]
theorem bulk_many (l : List (DataW H)) : l.length ≤ Rows.uptoBulkAll l := by
  induction l with
  | nil => simp [Rows.uptoBulkAll]
  | cons d l ih => have := bulk_pos d; simp only [Rows.uptoBulkAll, List.length_cons]; omega
theorem bulk_part {d : DataW H} : ∀ {l : List (DataW H)}, d ∈ l → Rows.uptoBulk d ≤ Rows.uptoBulkAll l
  | x :: l, h => by
    simp only [Rows.uptoBulkAll]
    rcases List.mem_cons.1 h with rfl | h
    · omega
    · have := bulk_part h; omega
variable {enc : TypeId × Value → H} {P : Program} {w : World} {base : Nat} {spare : Nat → Bool} {held : Bool}
theorem bulk_slice {t e : TypeId} {A : Option Addr} {n c : Nat} {d : DataW H} {p : List MemPlace} {l : List (DataW H)} (ht : P.underlying t = some (.slice e)) (h : DataW.Trod enc P w base spare held t (.slice A n c) d p) (hd : d ∈ l) (hk : Rows.uptoSmall H l = true) : n ≤ 1048576 := by
  have hb : Rows.uptoBulkAll l ≤ 1048576 := of_decide_eq_true hk
  have h1 := bulk_part hd
  obtain ⟨fuel, hf⟩ := h
  rcases Go.Deep.open_slice ht hf with ⟨h0, -⟩ | ⟨a, len, cap, m, k, D, Pl, hcs, -, hl, hm, hmm, hx, -⟩
  · have : n = 0 := by simpa [Value.cells] using congrArg (fun l => match l with | [Value.slice _ n _] => n | _ => 0) h0
    omega
  · have hn : n = len := by simpa [Value.cells] using congrArg (fun l => match l with | [Value.slice _ n _] => n | _ => 0) hcs
    have hdd : d = .slice ((List.range len).map D) ((List.range (m - len)).map fun j => D (len + j)) := congrArg Prod.fst hx
    rw [hdd] at h1
    have h2 := bulk_many ((List.range len).map D)
    simp only [List.length_map, List.length_range] at h2
    simp only [Rows.uptoBulk] at h1
    omega
theorem bulk_sl {t e : TypeId} {v : Value} {sz n : Nat} {xs : List Value} {w0 : World} {d : DataW H} {p : List MemPlace} {l : List (DataW H)} (hs : SL w0 sz v n xs) (ht : P.underlying t = some (.slice e)) (h : DataW.Trod enc P w base spare held t v d p) (hd : d ∈ l) (hk : Rows.uptoSmall H l = true) : n ≤ 1048576 := by
  obtain ⟨A, c, rfl, -⟩ := hs
  exact bulk_slice ht h hd hk
end
end Go.Proofs.YtgmddhljgfbibaaGreatDoor
namespace Go.Proofs.YtgmddhljgfbibaaGreatDoor
set_option linter.unusedVariables false
set_option linter.unusedSimpArgs false
open Go.RowKit Go.ChangeShapes Go.WideShapes Go.ChangeAt
theorem own : ownKnob Tryz.prog.godebug = none := by kernel_rfl
theorem laidOut : laidOutB Tryz.prog = true := by kernel_rfl
section
variable {H : Type} {enc : TypeId × Value → H} {P : Program}
theorem below_trodAll (hl : laidOutB P = true) {W W' : World} (hb : Below W.heap.size W W') : ∀ {ts : List TypeId} {vs : List Value} {ds : List (DataW H)} {ps : List MemPlace},
    (∀ t ∈ ts, P.readableRec t = true ∧ t < P.types.size) → DataW.TrodAll enc P W 0 (fun _ => true) true ts vs ds ps → (∀ x ∈ ps, x.block < W.heap.size) →
    DataW.TrodAll enc P W' 0 (fun b => decide (b < W.heap.size)) true ts vs ds ps
  | [], _, _, _, _, h, _ => by
    obtain ⟨rfl, rfl, rfl⟩ := trodAll_nil h
    exact trodAll_mk0
  | t :: ts, vs, ds, ps, hr, h, hlt => by
    obtain ⟨v, vs1, d, ds1, a, b, rfl, rfl, rfl, h1, h2⟩ := trodAll_cons h
    exact ⟨a, b, Below.trod hl (hr t (by simp)).1 (hr t (by simp)).2 h1 hb (fun x hx => hlt x (by simp [hx])),
      below_trodAll hl hb (fun t ht => hr t (by simp [ht])) h2 (fun x hx => hlt x (by simp [hx])), rfl⟩

/-- a law's row is met: true, and new blocks alone -/
theorem law_post {f : Func} {s : ChangeSpec} {W W' : World} {args : Array Value} {ds gs : List (DataW H)} {before : List MemPlace}
    (hl : laidOutB P = true) (tb : TypeId) (htb : P.underlying tb = some .bool) (hft : f.resultTypes = #[tb]) (hvars : s.vars = [])
    (hr : ∀ t ∈ f.params.toList, P.readableRec t = true ∧ t < P.types.size)
    (hW : DataW.Whole enc P f.params.toList s.vars false W args.toList ds gs before)
    (hfn : s.fn H (ds ++ gs) = { results := [.lit (.bool true)], args := ds })
    (hb : Ext W W') : s.post enc P f false true false false W args (.bool true) W' := by
  have hlt : ∀ p ∈ before, p.block < W.heap.size := fun p hp => by simpa using hW.lt p hp
  have hW' := hW
  obtain ⟨p, q, hA, hV, rfl, hfz, hnd⟩ := hW
  rw [hvars] at hV
  obtain ⟨rfl, rfl⟩ := trodVars_none hV
  simp only [List.append_nil] at hlt hW'
  refine ⟨ds, [], p, [], p, [], hW', ?_, ?_, ?_, ?_, fun h => by cases h⟩
  · rw [hft, hfn]
    exact trodAll_cons_mk (shut_bool htb _) trodAll_mk0
  · rw [hfn]
    exact below_trodAll hl hb hr hA hlt
  · rw [hfn, hvars]
    rfl
  · exact World.keptBut_mono (fun p hp => ⟨hp, Or.inr (Or.inl hp)⟩) (hb.frame (· ∈ p))
end
end Go.Proofs.YtgmddhljgfbibaaGreatDoor
/- The world of the witness: the listed tables laid. What a shaped world's MaxLen holds. -/
namespace Go.Proofs.YtgmddhljgfbibaaGreatDoor
set_option linter.unusedVariables false
set_option linter.unusedSimpArgs false
open Go.ChangeShapes Go.WideShapes Go.ChangeAt Go.RowKit
theorem maxLen_cell {W : World} (h : W.ShapedOpen Tryz.prog) : ∃ m, W.cell? ⟨0, 0, none⟩ = some (.int .i64 m) :=
  Go.Proofs.cell_of_shapedOpen_int (zero := #[.int .i64 0]) (t := 3) h (of_decide_eq_true (by kernel_rfl)) (by kernel_rfl) rfl (by kernel_rfl) (by kernel_rfl) Tryz.underlying3
def layCells (cs : Array Value) : Obj → Obj
  | .cells _ t frozen => .cells cs t frozen
  | o => o
/-- the settled world, the two tables holding what their initialisers lay -/
noncomputable def laidWorld (os : Os) : World :=
  { World.holding Tryz.prog os ⟨#[], #[], []⟩ with
    heap := ((World.holding Tryz.prog os ⟨#[], #[], []⟩).heap.modify 1 (layCells (Go.Pinned.utf8FirstZ.map fun n : Nat => Value.int .u8 n).toArray)).modify 2
      (layCells (([128, 191, 160, 191, 128, 159, 144, 191, 128, 143, 0, 0, 0, 0, 0, 0, 0, 0, 0, 0, 0, 0, 0, 0, 0, 0, 0, 0, 0, 0, 0, 0] : List Nat).map fun n : Nat => Value.int .u8 n).toArray) }
end Go.Proofs.YtgmddhljgfbibaaGreatDoor
/- The law ScanMends, walked. -/
namespace Go.Proofs.YtgmddhljgfbibaaGreatDoor
set_option linter.unusedVariables false
set_option linter.unusedSimpArgs false
open Go.RowKit
/-- what Mend hands back, in one form -/
theorem MendIs.any {r : Int × List Int × List Int} {w w' : World} {e : Ending} (h : MendIs r w e w') : ∃ B k d C j c, e = .returned (.tuple #[.slice B k d, .slice C j c, .int .i64 r.1]) ∧ (if r.1 = 0 then r.2.1 else []).length = k * 64 ∧ SL w' 64 (.slice B k d) k (ints (if r.1 = 0 then r.2.1 else [])) ∧ (if r.1 = 0 then r.2.2 else []).length = j ∧ SL w' 1 (.slice C j c) j (ints (if r.1 = 0 then r.2.2 else [])) ∧ Ext w w' := by
  obtain ⟨hx, h⟩ := h
  by_cases h0 : r.1 = 0
  · rw [if_pos h0] at h
    rw [if_pos h0, if_pos h0]
    obtain ⟨B, k, d, C, j, c, rfl, h1, h2, h3, h4⟩ := h
    exact ⟨B, k, d, C, j, c, by rw [h0], h1, h2, h3, h4, hx⟩
  · rw [if_neg h0] at h
    rw [if_neg h0, if_neg h0]
    exact ⟨none, 0, 0, none, 0, 0, h, rfl, SL.nil _ 64, rfl, SL.nil _ 1, hx⟩
end Go.Proofs.YtgmddhljgfbibaaGreatDoor
namespace Go.Proofs.YtgmddhljgfbibaaGreatDoor.scanMends
open Go.RowKit
attribute [local irreducible] bytesV
set_option maxRecDepth 20000 in
set_option maxHeartbeats 2000000 in
theorem walk (cs1 xs1 : List Int) (s1 : Value) (cs2 xs2 : List Int) (s2 : Value) (l1 : cs1.length = 16) (l2 : cs2.length = 16) (v : Value) (bs : List Nat) (hlt : ∀ b ∈ bs, b < 256) (hub : bs.length ≤ 1048576) (hA : ∀ n c, v = .slice none n c → c = 0) (nn : Int) (_ : (Lit.int .i64 nn).wf = true) (ev : Int) (_ : (Lit.int .i64 ev).wf = true) (m0 : Int) (w : World) (hm : w.cell? ⟨0, 0, none⟩ = some (.int .i64 m0))
    (hs1 : SL w 1 s1 xs1.length (ints xs1)) (hs2 : SL w 1 s2 xs2.length (ints xs2)) (hs : SL w 1 v bs.length (bytesV bs)) :
    Calls Tryz.prog 4 #[.agg (tblL cs1 s1 ++ tblL cs2 s2).toArray, v, .int .i64 nn, .int .i64 ev] w fun e w' => e = .returned (.bool true) ∧ Ext w w' := by
  obtain ⟨n, hn⟩ : ∃ n, bs.length = n := ⟨_, rfl⟩
  rw [hn] at hs hub
  have hs' := hs
  obtain ⟨A, c, rfl, -, -, -, -⟩ := hs'
  obtain ⟨r, -, K1, K2⟩ := mendBothD cs1 xs1 cs2 xs2 s1 s2 l1 l2 A n c bs nn ev hlt hub m0 w hm hs1 hs2 hs
  have H1 := hid_ K1
  have H2 := hid_ K2
  have hsz := hid_ (tblsWhole (tblL_len cs1 s1 l1) (tblL_len cs2 s2 l2))
  generalize (tblL cs1 s1 ++ tblL cs2 s2).toArray = tt at *
  have H3 := hid_ (fun W => scanEnc_range tt (.slice none 0 0) (-1) W (.inl (by omega)))
  obtain ⟨X, hX⟩ : ∃ X, X = if r.1 = 0 then r.2.1 else [] := ⟨_, rfl⟩
  obtain ⟨Y, hY⟩ : ∃ Y, Y = if r.1 = 0 then r.2.2 else [] := ⟨_, rfl⟩
  have HA : Hid (∀ W e W', MendIs r W e W' → ∃ B k d C j c, e = .returned (.tuple #[.slice B k d, .slice C j c, .int .i64 r.1]) ∧ X.length = k * 64 ∧ SL W' 64 (.slice B k d) k (ints X) ∧ Y.length = j ∧ SL W' 1 (.slice C j c) j (ints Y) ∧ Ext W W') := hid_ (fun W e W' h => by rw [hX, hY]; exact h.any)
  have HN : Hid (∀ W e W', SegIs (1, []) W e W' → e = .returned (.tuple #[.slice none 0 0, .int .i64 1]) ∧ Ext W W') := hid_ (fun W e W' h => by
    obtain ⟨hx, h⟩ := h
    rw [if_neg (by decide)] at h
    exact ⟨h, hx⟩)
  obtain ⟨x, q⟩ := r
  dsimp only at HA
  have e1 : (x == x) = true := by simp
  have HEQ := hid_ (fun B C k c d W (hk : X.length = k * 64) (h1 : SL W 64 (.slice B k c) k (ints X)) (h2 : SL W 64 (.slice C k d) k (ints X)) => eqBlocks_same (.slice B k c) (.slice C k d) k X W hk h1 h2)
  have HEI := hid_ (fun B C j c d W (hj : Y.length = j) (h1 : SL W 1 (.slice B j c) j (ints Y)) (h2 : SL W 1 (.slice C j d) j (ints Y)) => show Calls Tryz.prog 11 #[.slice B j c, .slice C j d] W fun e w' => e = .returned (.bool true) ∧ W = w' by
    subst hj
    exact (eqInt_any _ _ Y Y W h1 h2).mono fun e w' ⟨he, hw⟩ => ⟨by rw [he]; simp, hw⟩)
  clear K1 K2 hs hs1 hs2 hm hn hX hY l1 l2 hlt hub hA
  go_enter Tryz.func4, Tryz.ntmps4
  go_wp2_with (first
    | (show wpList _ _ _ (⟨some 4, _, _, _, _, _⟩ :: _) _ _; refine wpList_box_abs rfl 27 (.tmp 0) rfl tt rfl ?_; intro w1 g hb1 hx1 hg1)
    | (show wpList _ _ _ (⟨some 18, _, _, _, _, _⟩ :: _) _ _; refine wpList_load_blk rfl 27 (.tmp 4) rfl g rfl hb1 _ Tryz.underlying27 rfl 34 sizeTbls hsz.out ?_)
    | (go_at_call 9; (with_reducible refine (H1.out _ hx1).mono ?_); intro e w2 h2; obtain ⟨B2, k2, d2, C2, j2, c2, rfl, hk2, hs2, hj2, ht2, hx2⟩ := HA.out _ _ _ h2; have hx2' := hx1.trans hx2)
    | (show wpList _ _ _ (⟨some 27, _, _, _, _, _⟩ :: _) _ _; refine wpList_load_blk rfl 27 (.tmp 4) rfl g rfl (hb1.ext hx2) _ Tryz.underlying27 rfl 34 sizeTbls hsz.out ?_)
    | (go_at_call 10; (with_reducible refine (H2.out _ hx2').mono ?_); intro e w3 h3; obtain ⟨B3, k3, d3, C3, j3, c3, rfl, hk3, hs3, hj3, ht3, hx3⟩ := HA.out _ _ _ h3; have hx3' := hx2'.trans hx3; obtain rfl : k2 = k3 := (by omega); obtain rfl : j2 = j3 := hj2.symm.trans hj3)
    | (show wpList _ _ _ (⟨some 36, _, _, _, _, _⟩ :: _) _ _; refine wpList_load_blk rfl 27 (.tmp 4) rfl g rfl ((hb1.ext hx2).ext hx3) _ Tryz.underlying27 rfl 34 sizeTbls hsz.out ?_)
    | (go_at_call 7; (with_reducible refine (H3.out _).mono ?_); intro e w5 h5; obtain ⟨rfl, hx5⟩ := HN.out _ _ _ h5)
    | (go_at_call 8; (with_reducible refine (HEQ.out _ _ _ _ _ _ hk2 ((hs2.ext hx3).ext hx5) (hs3.ext hx5)).mono ?_); rintro e w7 ⟨rfl, hx7⟩)
    | (go_at_call 11; (with_reducible refine (HEI.out _ _ _ _ _ _ hj2 (((ht2.ext hx3).ext hx5).ext hx7) ((ht3.ext hx5).ext hx7)).mono ?_); rintro e w8 ⟨rfl, rfl⟩))
  go_ret
  exact ⟨rfl, (hx3'.trans hx5).trans hx7⟩
end Go.Proofs.YtgmddhljgfbibaaGreatDoor.scanMends
