/- Contracts for the law ScanEncodesCard, part 30: what the functions that it reaches answer, for all arguments that the theorems name. -/
import Derived.Test.YtgmddhljgfbibaaDoorMScanEncodesCard10
import Derived.Test.YtgmddhljgfbibaaDoorMScanEncodesCard15
import Derived.Test.YtgmddhljgfbibaaDoorMScanEncodesCard13
import Derived.Test.YtgmddhljgfbibaaDoorMScanEncodesCard29
import Derived.Test.YtgmddhljgfbibaaDoorMScanEncodesCard17
import Derived.Test.YtgmddhljgfbibaaDoorMScanEncodesCard9
import Derived.Test.YtgmddhljgfbibaaDoorMScanEncodesCard5
import Derived.Test.YtgmddhljgfbibaaDoorMScanEncodesCard14
import Derived.Test.YtgmddhljgfbibaaDoorMScanEncodesCard7
import Derived.Deep.Cut
/- bad of the law's package: a table that may not be. -/
namespace Go.Proofs.YtgmddhljgfbibaaDoor
set_option linter.unusedVariables false
set_option linter.unusedSimpArgs false
open Go.RowKit
theorem size_tbl_row (sl : Value) : (tblv (List.replicate 16 0) sl).size = 17 := by simp [tblv, ints]
set_option maxRecDepth 20000 in
set_option maxHeartbeats 400000 in
theorem bad_any (w : World) : Calls Tryd.prog 14 #[] w fun e w' => ∃ g, e = .returned (.agg (tblv (List.replicate 16 0) (.slice (some ⟨g, 0, none⟩) 1 1))) ∧ SL w' 1 (.slice (some ⟨g, 0, none⟩) 1 1) 1 (ints [1]) ∧ Ext w w' := by
  go_enter Tryd.func14, Tryd.ntmps14
  go_wp2_with fail
  refine ret_cell rfl rfl _ rfl ((Blk.new w 32 _).alloc _) _ Tryd.underlying32 rfl 17 sizeTbl rfl ⟨w.heap.size + 1, rfl, ?_, ((Ext.refl w).alloc _).alloc _⟩
  have h := (Blk.new (w.alloc (.cells (tblv (List.replicate 16 0) (.slice (some ⟨w.heap.size + 1, 0, none⟩) 1 1)) 32)) 3 #[.int .i64 1]).sl (size := 1) (n := 1) (c := 1) rfl (by omega) (by omega)
  rw [World.size_alloc] at h
  exact h
end Go.Proofs.YtgmddhljgfbibaaDoor
/- Opening a parameter that is a file. -/
namespace Go.Proofs.YtgmddhljgfbibaaDoor
set_option linter.unusedVariables false
set_option linter.unusedSimpArgs false
open Go.RowKit Go.ChangeShapes Go.WideShapes Go.ChangeAt
section
variable {H : Type} {enc : TypeId × Value → H} {w : World} {base : Nat} {spare : Nat → Bool} {held : Bool}
theorem trod_struct7 {P : Program} {t : TypeId} {f0 f1 f2 f3 f4 f5 f6 : Field} {fuel : Nat} {cs : List Value} {x : DataW H × List MemPlace} (ht : P.underlying t = some (.struct #[f0, f1, f2, f3, f4, f5, f6])) (h : DataW.trod enc P w base spare held fuel t cs = some x) :
    ∃ y0 y1 y2 y3 y4 y5 y6 n, cs.length = P.cellsOf t ∧ DataW.trod enc P w base spare held n f0.type ((cs.drop f0.offset).take (P.cellsOf f0.type)) = some y0 ∧
      DataW.trod enc P w base spare held n f1.type ((cs.drop f1.offset).take (P.cellsOf f1.type)) = some y1 ∧ DataW.trod enc P w base spare held n f2.type ((cs.drop f2.offset).take (P.cellsOf f2.type)) = some y2 ∧
      DataW.trod enc P w base spare held n f3.type ((cs.drop f3.offset).take (P.cellsOf f3.type)) = some y3 ∧ DataW.trod enc P w base spare held n f4.type ((cs.drop f4.offset).take (P.cellsOf f4.type)) = some y4 ∧
      DataW.trod enc P w base spare held n f5.type ((cs.drop f5.offset).take (P.cellsOf f5.type)) = some y5 ∧ DataW.trod enc P w base spare held n f6.type ((cs.drop f6.offset).take (P.cellsOf f6.type)) = some y6 := by
  obtain ⟨xs, n, _, rfl, hl, hlen, hf⟩ := DataW.trod_struct ht h
  match xs, hlen with
  | [y0, y1, y2, y3, y4, y5, y6], _ => exact ⟨y0, y1, y2, y3, y4, y5, y6, n, hl, by simpa using hf 0 f0 rfl, by simpa using hf 1 f1 rfl, by simpa using hf 2 f2 rfl, by simpa using hf 3 f3 rfl, by simpa using hf 4 f4 rfl, by simpa using hf 5 f5 rfl, by simpa using hf 6 f6 rfl⟩
theorem cellsTbls : Tryd.prog.cellsOf 34 = 34 := by kernel_rfl
theorem cellsBy : Tryd.prog.cellsOf 22 = 1 := by kernel_rfl
theorem open_tableX {fuel : Nat} {cs : List Value} {x : DataW H × List MemPlace} (hL : cs.length = 17) (hf : DataW.trod enc Tryd.prog w base spare held fuel 32 cs = some x) :
    ∃ (zs xs : List Int) (sl : Value), cs = tblL zs sl ∧ zs.length = 16 ∧ SL w 1 sl xs.length (ints xs) := by
  obtain ⟨y0, y1, n, -, hlen, h0, h1⟩ := trod_struct2 Tryd.underlying32 hf
  dsimp only at h0 h1
  obtain ⟨zs, hz, hc, hq⟩ := trod_ints_arr Tryd.underlying29 Tryd.underlying3 cellsInt cells16 h0
  obtain ⟨xs, sl, hs, hsl, hxq⟩ := open_intsX h1
  rw [cells16, List.drop_zero] at hc
  rw [cellsSl] at hs
  refine ⟨zs, xs, sl, ?_, hz, hsl⟩
  have e2 : cs.drop 16 = [sl] := by
    rw [← hs]
    rw [List.take_of_length_le (by rw [List.length_drop, hL]; omega)]
  unfold tblL
  rw [← hc, ← e2, List.take_append_drop]
theorem open_bytesX {fuel : Nat} {cs : List Value} {x : DataW H × List MemPlace} (hf : DataW.trod enc Tryd.prog w base spare held fuel 22 cs = some x) :
    ∃ (v : Value) (bs : List Nat), cs = [v] ∧ SL w 1 v bs.length (bytesV bs) := by
  rcases open_ints Tryd.underlying22 Tryd.underlying5 (by kernel_rfl) hf with ⟨rfl, -⟩ | ⟨a, len, cap, zs, rfl, -, hlc, hcm, hzl, -, hcell, hwf⟩
  · exact ⟨_, [], rfl, SL.nil w 1⟩
  · have hlen : len ≤ zs.length := by rw [hzl]; split <;> omega
    obtain ⟨bs, hbs, hlt⟩ := bytes_of (zs.take len) (fun n hn => hwf n (List.mem_of_mem_take hn))
    have hl : bs.length = len := by
      have := congrArg List.length hbs
      simp [bytesV] at this
      omega
    refine ⟨_, bs, rfl, ?_⟩
    rw [hl]
    refine ⟨some a, cap, rfl, hlc, by unfold maxLen at hcm; omega, by rw [bytesV_len, hl]; omega, fun h0 => ⟨a, rfl, ?_, fun j u hu => ?_⟩⟩
    · have := hcell 0 (by omega)
      have h2 := World.block_lt_of_cell? w _ this
      rwa [block_of_add] at h2
    · rw [← hbs, List.getElem?_map] at hu
      obtain ⟨z, hz, rfl⟩ := Option.map_eq_some_iff.1 hu
      have hj : j < len := by have := (List.getElem?_eq_some_iff.1 hz).1; simp at this; omega
      rw [List.getElem?_take_of_lt hj] at hz
      rw [hcell j (by omega)]
      simp [List.getD_eq_getElem?_getD, hz]
theorem one_at {cs : List Value} {i : Nat} {v : Value} (h : (cs.drop i).take 1 = [v]) : cs[i]? = some v := by
  have := congrArg (·[0]?) h
  simpa using this
theorem parts_of (cs : List Value) (hL : cs.length = 103) {a b c e f : Value} {q t1 t2 : List Value} (h0 : (cs.drop 0).take 1 = [a]) (h1 : (cs.drop 1).take 1 = [b]) (h2 : (cs.drop 2).take 1 = [c]) (h3 : (cs.drop 3).take 64 = q)
    (h4 : (cs.drop 67).take 17 = t1) (h5 : (cs.drop 84).take 17 = t2) (h6 : (cs.drop 101).take 1 = [e]) (h7 : (cs.drop 102).take 1 = [f]) : cs = [a, b, c] ++ q ++ t1 ++ t2 ++ [e, f] := by
  have k7 : cs.drop 102 = [f] := by rw [← h7, List.take_of_length_le (by rw [List.length_drop, hL]; omega)]
  have k6 : cs.drop 101 = [e, f] := by rw [← List.take_append_drop 1 (cs.drop 101), h6, List.drop_drop]; rw [k7]; rfl
  have k5 : cs.drop 84 = t2 ++ [e, f] := by rw [← List.take_append_drop 17 (cs.drop 84), h5, List.drop_drop]; rw [k6]
  have k4 : cs.drop 67 = t1 ++ (t2 ++ [e, f]) := by rw [← List.take_append_drop 17 (cs.drop 67), h4, List.drop_drop]; rw [k5]
  have k3 : cs.drop 3 = q ++ (t1 ++ (t2 ++ [e, f])) := by rw [← List.take_append_drop 64 (cs.drop 3), h3, List.drop_drop]; rw [k4]
  have k2 : cs.drop 2 = c :: (q ++ (t1 ++ (t2 ++ [e, f]))) := by rw [← List.take_append_drop 1 (cs.drop 2), h2, List.drop_drop]; rw [k3]; rfl
  have k1 : cs.drop 1 = b :: c :: (q ++ (t1 ++ (t2 ++ [e, f]))) := by rw [← List.take_append_drop 1 (cs.drop 1), h1, List.drop_drop]; rw [k2]; rfl
  rw [← List.take_append_drop 1 cs, k1, show cs.take 1 = [a] from h0]
  simp
set_option maxRecDepth 20000 in
theorem open_tables {b0 : Nat} {r : Reach} {v : Value} {d : DataW H} {p : List MemPlace} (hv : Value.okWide Tryd.prog w r b0 34 v) (h : DataW.Trod enc Tryd.prog w base spare held 34 v d p) :
    ∃ (cs1 xs1 : List Int) (s1 : Value) (cs2 xs2 : List Int) (s2 : Value), v = .agg (tblL cs1 s1 ++ tblL cs2 s2).toArray ∧ cs1.length = 16 ∧ cs2.length = 16 ∧ SL w 1 s1 xs1.length (ints xs1) ∧ SL w 1 s2 xs2.length (ints xs2) := by
  obtain ⟨cs, rfl, hsz⟩ := okWide_struct Tryd.underlying34 hv
  obtain ⟨fuel, hf⟩ := h
  obtain ⟨z0, z1, m, -, hlen4, g0, g1⟩ := trod_struct2 Tryd.underlying34 hf
  have hL : cs.toList.length = 34 := by rw [show cs.toList.length = cs.size by simp, hsz, cellsTbls]
  have hcs : (Value.agg cs).cells.toList = cs.toList := rfl
  rw [hcs] at g0 g1
  dsimp only at g0 g1
  rw [cellsTbl, List.drop_zero] at g0
  rw [cellsTbl] at g1
  obtain ⟨cs1, xs1, s1, e4, hc1, hs1⟩ := open_tableX (by rw [List.length_take, hL]; rfl) g0
  obtain ⟨cs2, xs2, s2, e6, hc2, hs2⟩ := open_tableX (by rw [List.length_take, List.length_drop, hL]; rfl) g1
  refine ⟨cs1, xs1, s1, cs2, xs2, s2, ?_, hc1, hc2, hs1, hs2⟩
  congr 1
  apply Array.ext'
  show cs.toList = _
  rw [List.take_of_length_le (by rw [List.length_drop, hL]; omega)] at e6
  rw [← List.take_append_drop 17 cs.toList, e4, e6]
end
end Go.Proofs.YtgmddhljgfbibaaDoor
/- The law SegEncodes, walked. -/
namespace Go.Proofs.YtgmddhljgfbibaaDoor
set_option linter.unusedVariables false
set_option linter.unusedSimpArgs false
open Go.RowKit
theorem eqByte_k2 {w : World} {B C : Option Addr} {k c d : Nat} {Z : List Nat} (hk : Z.length = k) (h1 : SL w 1 (.slice B k c) k (bytesV Z)) (h2 : SL w 1 (.slice C k d) k (bytesV Z)) :
    Calls Tryd.prog 9 #[.slice B k c, .slice C k d] w fun e w' => e = .returned (.bool true) ∧ w = w' := by
  subst hk
  exact eqByte_same _ _ Z w h1 h2
/-- what Encode hands back, in one form -/
theorem SegIs.any {r : Int × List Nat} {w w' : World} {e : Ending} (h : SegIs r w e w') : ∃ B k d, e = .returned (.tuple #[.slice B k d, .int .i64 r.1]) ∧ (if r.1 = 0 then r.2 else []).length = k ∧ SL w' 1 (.slice B k d) k (bytesV (if r.1 = 0 then r.2 else [])) ∧ Ext w w' := by
  obtain ⟨hx, h⟩ := h
  by_cases h0 : r.1 = 0
  · rw [if_pos h0] at h ⊢
    obtain ⟨B, k, d, rfl, h1, h2, -⟩ := h
    exact ⟨B, k, d, by rw [h0], h1, h2, hx⟩
  · rw [if_neg h0] at h ⊢
    exact ⟨none, 0, 0, h, rfl, SL.nil _ 1, hx⟩
theorem zeroTblL : (Value.agg (ints (List.replicate 16 0) ++ [Value.slice none 0 0]).toArray) = .agg (tblL (List.replicate 16 0) (.slice none 0 0)).toArray := rfl
set_option maxRecDepth 20000 in
theorem builtTbls (tl : List Value) (h : tl.length = 17) : Tryd.prog.built 34 [(0, .agg tl.toArray)] = some (tl ++ tblL (List.replicate 16 0) (.slice none 0 0)).toArray := by
  match tl, h with
  | [a0, a1, a2, a3, a4, a5, a6, a7, a8, a9, a10, a11, a12, a13, a14, a15, a16], _ =>
    show _ = _
    kernel_rfl
theorem checkZ_badS : checkZ (List.replicate 16 0) [1] = 4 := by decide
/-- both encoders answer alike -/
theorem segBoth (cs1 xs1 cs2 xs2 : List Int) (s1 s2 : Value) (l1 : cs1.length = 16) (l2 : cs2.length = 16) (A : Option Addr) (n c : Nat) (Z : List Int) (hZ : Z.length = n * 64) (m0 : Int) (w : World) (hm : w.cell? ⟨0, 0, none⟩ = some (.int .i64 m0))
    (hs1 : SL w 1 s1 xs1.length (ints xs1)) (hs2 : SL w 1 s2 xs2.length (ints xs2)) (hs : SL w 64 (.slice A n c) n (ints Z)) :
    ∃ r : Int × List Nat, (∀ W, Ext w W → Calls Tryd.prog 12 #[.agg (tblL cs1 s1 ++ tblL cs2 s2).toArray, .slice A n c] W (SegIs r W)) ∧ (∀ W, Ext w W → Calls Tryd.prog 13 #[.agg (tblL cs1 s1 ++ tblL cs2 s2).toArray, .slice A n c] W (SegIs r W)) := by
  have h1 := tblL_len cs1 s1 l1
  have h2 := tblL_len cs2 s2 l2
  have C1 : ∀ W, Ext w W → Calls Tryd.prog 48 #[.agg (tblL cs1 s1).toArray] W fun e W' => e = .returned (.int .i64 (checkZ cs1 xs1)) ∧ Ext W W' := fun W h => check_any cs1 xs1 s1 W l1 (hs1.ext h)
  have C2 : ∀ W, Ext w W → Calls Tryd.prog 48 #[.agg (tblL cs2 s2).toArray] W fun e W' => e = .returned (.int .i64 (checkZ cs2 xs2)) ∧ Ext W W' := fun W h => check_any cs2 xs2 s2 W l2 (hs2.ext h)
  have D1 : ∀ W, Ext w W → Calls Tryd.prog 56 #[.agg (tblL cs1 s1).toArray] W fun e W' => e = .returned (.int .i64 (checkZ cs1 xs1)) ∧ Ext W W' := fun W h => rcheck_any cs1 xs1 s1 W l1 (hs1.ext h)
  have D2 : ∀ W, Ext w W → Calls Tryd.prog 56 #[.agg (tblL cs2 s2).toArray] W fun e W' => e = .returned (.int .i64 (checkZ cs2 xs2)) ∧ Ext W W' := fun W h => rcheck_any cs2 xs2 s2 W l2 (hs2.ext h)
  have o1 := tblL_oneS cs1 s1 hs1
  have o2 := tblL_oneS cs2 s2 hs2
  by_cases hE : (if checkZ cs1 xs1 = 0 then checkZ cs2 xs2 else checkZ cs1 xs1) = 0
  · have z1 : checkZ cs1 xs1 = 0 := by
      by_cases h : checkZ cs1 xs1 = 0
      · exact h
      · rw [if_neg h] at hE; exact hE
    have z2 : checkZ cs2 xs2 = 0 := by rw [if_pos z1] at hE; exact hE
    refine ⟨segR (zipC (codesW cs1 16) xs1) (zipC (codesW cs2 16) xs2) n Z, fun W h => ?_, fun W h => ?_⟩
    · rw [z1] at C1
      rw [z2] at C2
      exact segEnc_good _ _ (fitT_of cs1 xs1 l1 z1) (fitT_of cs2 xs2 l2 z2) _ _ A n c Z hZ m0 W (hs.ext h) (cell_keep hm h) h1 h2 o1 o2 (fun W' h' => C1 W' (h.trans h')) (fun W' h' => C2 W' (h.trans h'))
        (fun W' h' => newCoder_any cs1 xs1 s1 W' l1 ((hs1.ext h).ext h') z1) (fun W' h' => newCoder_any cs2 xs2 s2 W' l2 ((hs2.ext h).ext h') z2)
    · exact rsegEnc_good cs1 xs1 cs2 xs2 s1 s2 A n c Z hZ W (hs.ext h) l1 l2 (hs1.ext h) (hs2.ext h) z1 z2
  · exact ⟨(_, []), fun W h => segEnc_bad _ _ _ _ _ W h1 h2 o1 o2 (fun W' h' => C1 W' (h.trans h')) (fun W' h' => C2 W' (h.trans h')) hE, fun W h => rsegEnc_bad _ _ _ _ _ W h1 h2 (fun W' h' => D1 W' (h.trans h')) (fun W' h' => D2 W' (h.trans h')) hE⟩
theorem badTbls (w : World) : Calls Tryd.prog 14 #[] w fun e w' => ∃ tl tt : Array Value, e = .returned (.agg tl) ∧ Hid (Tryd.prog.built 34 [(0, .agg tl)] = some tt) ∧ Hid (∀ W v, Ext w' W → Calls Tryd.prog 12 #[.agg tt, v] W (SegIs (4, []) W)) ∧ Ext w w' :=
  (bad_any w).mono fun e w' ⟨g, he, hs, hx⟩ => by
    refine ⟨(tblL (List.replicate 16 0) (.slice (some ⟨g, 0, none⟩) 1 1)).toArray, _, he, hid_ (builtTbls _ (tblL_len _ _ (by simp))), hid_ (fun W v hW => ?_), hx⟩
    have hc := fun W' (h' : Ext W W') => check_any (List.replicate 16 0) [1] (.slice (some ⟨g, 0, none⟩) 1 1) W' (by simp) ((hs.ext hW).ext h')
    rw [checkZ_badS] at hc
    have h := segEnc_bad (tblL (List.replicate 16 0) (.slice (some ⟨g, 0, none⟩) 1 1)) (tblL (List.replicate 16 0) (.slice none 0 0)) 4 _ v W (tblL_len _ _ (by simp)) (tblL_len _ _ (by simp)) (tblL_oneS _ _ hs) (tblL_oneS _ _ (SL.nil W 1)) hc
      (fun W' h' => check_any (List.replicate 16 0) [] (.slice none 0 0) W' (by simp) (SL.nil W' 1)) (by rw [if_neg (by decide)]; decide)
    rw [if_neg (by decide)] at h
    exact h
end Go.Proofs.YtgmddhljgfbibaaDoor
namespace Go.Proofs.YtgmddhljgfbibaaDoor.segEncodes
open Go.RowKit
attribute [local irreducible] bytesV
set_option maxRecDepth 20000 in
set_option maxHeartbeats 2000000 in
theorem walk (cs1 xs1 : List Int) (s1 : Value) (cs2 xs2 : List Int) (s2 : Value) (l1 : cs1.length = 16) (l2 : cs2.length = 16) (v : Value) (Z : List Int) (hh : Z.length = Z.length / 64 * 64 ∧ ∀ z ∈ Z, inI64 z) (m0 : Int) (w : World) (hm : w.cell? ⟨0, 0, none⟩ = some (.int .i64 m0))
    (hs1 : SL w 1 s1 xs1.length (ints xs1)) (hs2 : SL w 1 s2 xs2.length (ints xs2)) (hs : SL w 64 v (Z.length / 64) (ints Z)) :
    Calls Tryd.prog 4 #[.agg (tblL cs1 s1 ++ tblL cs2 s2).toArray, v] w fun e w' => e = .returned (.bool true) ∧ Ext w w' := by
  obtain ⟨hZ, -⟩ := hh
  obtain ⟨n, hn⟩ : ∃ n, Z.length / 64 = n := ⟨_, rfl⟩
  rw [hn] at hs hZ
  have hs' := hs
  obtain ⟨A, c, rfl, -, -, -, -⟩ := hs'
  obtain ⟨r, K1, K2⟩ := segBoth cs1 xs1 cs2 xs2 s1 s2 l1 l2 A n c Z hZ m0 w hm hs1 hs2 hs
  have H1 := hid_ K1
  have H2 := hid_ K2
  have hsz := hid_ (tblsWhole (tblL_len cs1 s1 l1) (tblL_len cs2 s2 l2))
  generalize (tblL cs1 s1 ++ tblL cs2 s2).toArray = tt at *
  have HB := hid_ (fun W => badTbls W)
  obtain ⟨X, hX⟩ : ∃ X, X = if r.1 = 0 then r.2 else [] := ⟨_, rfl⟩
  have HA : Hid (∀ W e W', SegIs r W e W' → ∃ B k d, e = .returned (.tuple #[.slice B k d, .int .i64 r.1]) ∧ X.length = k ∧ SL W' 1 (.slice B k d) k (bytesV X) ∧ Ext W W') := hid_ (fun W e W' h => by rw [hX]; exact h.any)
  have HN : Hid (∀ W e W', SegIs (4, []) W e W' → e = .returned (.tuple #[.slice none 0 0, .int .i64 4]) ∧ Ext W W') := hid_ (fun W e W' h => by
    obtain ⟨hx, h⟩ := h
    rw [if_neg (by decide)] at h
    exact ⟨h, hx⟩)
  obtain ⟨x, q⟩ := r
  dsimp only at HA
  have e1 : (x == x) = true := by simp
  clear K1 K2 hs hs1 hs2 hm hn hZ hX l1 l2
  go_enter Tryd.func4, Tryd.ntmps4
  go_wp2_with (first
    | (show wpList _ _ _ (⟨some 2, _, _, _, _, _⟩ :: _) _ _; refine wpList_box_abs rfl 34 (.tmp 0) rfl tt rfl ?_; intro w1 g hb1 hx1 hg1)
    | (show wpList _ _ _ (⟨some 12, _, _, _, _, _⟩ :: _) _ _; refine wpList_load_blk rfl 34 (.tmp 2) rfl g rfl hb1 _ Tryd.underlying34 rfl 34 sizeTbls hsz.out ?_)
    | (go_at_call 12; (with_reducible refine (H1.out _ hx1).mono ?_); intro e w2 h2; obtain ⟨B2, k2, d2, rfl, hk2, hs2, hx2⟩ := HA.out _ _ _ h2; have hx2' := hx1.trans hx2)
    | (show wpList _ _ _ (⟨some 18, _, _, _, _, _⟩ :: _) _ _; refine wpList_load_blk rfl 34 (.tmp 2) rfl g rfl (hb1.ext hx2) _ Tryd.underlying34 rfl 34 sizeTbls hsz.out ?_)
    | (go_at_call 13; (with_reducible refine (H2.out _ hx2').mono ?_); intro e w3 h3; obtain ⟨B3, k3, d3, rfl, hk3, hs3, hx3⟩ := HA.out _ _ _ h3; have hx3' := hx2'.trans hx3; obtain rfl : k2 = k3 := by rw [← hk2, hk3])
    | (go_at_call 14; (with_reducible refine (HB.out _).mono ?_); rintro e w4 ⟨tl, tt2, rfl, HBL, hE4, hx4⟩)
    | (show wpList _ _ _ (⟨some 25, _, _, _, _, _⟩ :: _) _ _; refine wl_run rfl _ (ex_build1 rfl rfl HBL.out) ?_)
    | (go_at_call 12; (with_reducible refine (hE4.out _ _ (Ext.refl _)).mono ?_); intro e w5 h5; obtain ⟨rfl, hx5⟩ := HN.out _ _ _ h5)
    | (go_at_call 9; (with_reducible refine (eqByte_k2 hk2 (((hs2.ext hx3).ext hx4).ext hx5) ((hs3.ext hx4).ext hx5)).mono ?_); rintro e w7 ⟨rfl, rfl⟩))
  go_ret
  exact ⟨rfl, (hx3'.trans hx4).trans hx5⟩
end Go.Proofs.YtgmddhljgfbibaaDoor.segEncodes
/- The closure of seg.Counts as one that eats tokens. -/
namespace Go.Proofs.YtgmddhljgfbibaaDoor
set_option linter.unusedVariables false
set_option linter.unusedSimpArgs false
open Go.RowKit
/-- one more of number k -/
def incAt (l : List Int) (k : Nat) : List Int := l.set k (wrap64 (l.getD k 0 + 1))
def cntStep (s : List Int × List Int) (t : Tok) (b : Bool) : Int × (List Int × List Int) := (0, if b then (incAt s.1 t.1.toNat, s.2) else (s.1, incAt s.2 t.1.toNat))
theorem incAt_len (l : List Int) (k : Nat) : (incAt l k).length = l.length := by simp [incAt]
/-- two cells that hold two rows of 256 counts -/
structure CntIn (p q gA gB : Nat) (W : World) (s : List Int × List Int) (F : Nat → Prop) : Prop where
  hp : Blk W p 30 #[.slice (some ⟨gA, 0, none⟩) 256 256]
  hq : Blk W q 30 #[.slice (some ⟨gB, 0, none⟩) 256 256]
  ha : Blk W gA 3 (bv s.1)
  hb : Blk W gB 3 (bv s.2)
  la : s.1.length = 256
  lb : s.2.length = 256
  ne : gA ≠ gB
  hF : ∀ x, F x ↔ x = p ∨ x = q ∨ x = gA ∨ x = gB
theorem CntIn.keep {p q gA gB : Nat} {W W' : World} {s : List Int × List Int} {F T : Nat → Prop} (h : CntIn p q gA gB W s F) (hu : Upd T W W') (hT : ∀ x, T x → ¬ F x) : CntIn p q gA gB W' s F := by
  have k : ∀ x, F x → ¬ T x := fun x hf ht => hT x ht hf
  exact ⟨hu.blk h.hp (k _ ((h.hF _).2 (.inl rfl))), hu.blk h.hq (k _ ((h.hF _).2 (.inr (.inl rfl)))), hu.blk h.ha (k _ ((h.hF _).2 (.inr (.inr (.inl rfl))))), hu.blk h.hb (k _ ((h.hF _).2 (.inr (.inr (.inr rfl))))), h.la, h.lb, h.ne, h.hF⟩
theorem tInt_ne : 30 ≠ 3 := by decide
theorem CntIn.setA {p q gA gB : Nat} {W : World} {s : List Int × List Int} {F : Nat → Prop} (h : CntIn p q gA gB W s F) (k : Nat) (x : Int) : CntIn p q gA gB (W.setCell ⟨gA, k, none⟩ (.int .i64 x)) (s.1.set k x, s.2) F := by
  have n1 := h.hp.ne_ h.ha tInt_ne
  have n2 := h.hq.ne_ h.ha tInt_ne
  have := h.ha.set_ k (.int .i64 x)
  rw [bv_set] at this
  exact ⟨h.hp.far (p := ⟨gA, k, none⟩) n1 _, h.hq.far (p := ⟨gA, k, none⟩) n2 _, this, h.hb.far (p := ⟨gA, k, none⟩) h.ne.symm _, by simpa using h.la, h.lb, h.ne, h.hF⟩
theorem CntIn.setB {p q gA gB : Nat} {W : World} {s : List Int × List Int} {F : Nat → Prop} (h : CntIn p q gA gB W s F) (k : Nat) (x : Int) : CntIn p q gA gB (W.setCell ⟨gB, k, none⟩ (.int .i64 x)) (s.1, s.2.set k x) F := by
  have n1 := h.hp.ne_ h.hb tInt_ne
  have n2 := h.hq.ne_ h.hb tInt_ne
  have := h.hb.set_ k (.int .i64 x)
  rw [bv_set] at this
  exact ⟨h.hp.far (p := ⟨gB, k, none⟩) n1 _, h.hq.far (p := ⟨gB, k, none⟩) n2 _, h.ha.far (p := ⟨gB, k, none⟩) h.ne _, this, h.la, by simpa using h.lb, h.ne, h.hF⟩
theorem run_inc (x : Int) (w : World) : (binOp .add 3 (.int .i64 x) (.int .i64 1)).run Tryd.prog w = .ok (.int .i64 (wrap64 (x + 1))) w := by
  have e : IntKind.i64.wrap (x + 1) = wrap64 (x + 1) := by simp [IntKind.wrap_i64, wrap64]
  go_simp
attribute [local irreducible] bv
set_option maxHeartbeats 2000000 in
theorem countFn_any (p q gA gB : Nat) (t : Tok) (b : Bool) (s : List Int × List Int) (F : Nat → Prop) (w : World) (hw : tokWf t) (h : CntIn p q gA gB w s F) :
    Calls Tryd.prog 74 #[.agg (tokv t).toArray, .bool b, .pointer (some ⟨p, 0, none⟩), .pointer (some ⟨q, 0, none⟩)] w fun e w' => e = .returned (.int .i64 (cntStep s t b).1) ∧ Upd F w w' ∧ ∃ F', CntIn p q gA gB w' (cntStep s t b).2 F' ∧ ∀ x, F' x → F x ∨ w.heap.size ≤ x := by
  obtain ⟨t1, t2, t3⟩ := t
  obtain ⟨h1, h2, -⟩ := hw
  dsimp only at h1 h2
  obtain ⟨m, hm⟩ : ∃ m : Nat, t1 = (m : Int) := ⟨t1.toNat, by omega⟩
  subst hm
  have hm2 : m < 256 := by omega
  obtain ⟨f, r⟩ := s
  have hfa : F gA := (h.hF _).2 (.inr (.inr (.inl rfl)))
  have hfb : F gB := (h.hF _).2 (.inr (.inr (.inr rfl)))
  have HS : Hid (cntStep (f, r) ((m : Int), t2, t3) b = (0, if b then (incAt f m, r) else (f, incAt r m))) := hid_ (by simp [cntStep])
  generalize cntStep (f, r) ((m : Int), t2, t3) b = R at *
  cases b with
  | true =>
    have hl : m < f.length := by rw [h.la]; exact hm2
    have HF := hid_ (show f.getD m 0 = f[m] by simp [List.getD_eq_getElem?_getD, hl])
    have hm3 : (m : Int) < 256 := by omega
    go_enter Tryd.func74, Tryd.ntmps74
    go_wp2_with (first
      | (show wpList _ _ _ (⟨some 4, _, _, _, _, _⟩ :: _) _ _; refine wpList_box_abs rfl 60 (.tmp 0) rfl #[.int .i64 (m : Int), .int .i64 t2, .int .i64 t3] rfl ?_; intro w1 g1 hb1 hx1 hg1; have h1' := h.keep (upd_of_ext (S := fun _ => False) hx1) (fun _ k => k.elim); have q0 : w1.cell? ⟨g1, 0, none⟩ = some (.int .i64 (m : Int)) := hb1.cell 0; have hp1 := (h1'.hp.cell 0).trans (show (#[Value.slice (some ⟨gA, 0, none⟩) 256 256] : Array Value)[0]? = some (.slice (some ⟨gA, 0, none⟩) 256 256) from rfl); have hc1 : w1.cell? ⟨gA, m, none⟩ = some (.int .i64 f[m]) := (h1'.ha.cell m).trans (bv_at f m hl); have hz1 := h1'.ha.frozen m)
      | (show wpList _ _ _ (⟨some 13, _, _, _, _, _⟩ :: _) _ _; refine wl_run rfl (.int .i64 (wrap64 (f[m] + 1))) (ex_bin rfl rfl rfl (run_inc _)) ?_))
    go_ret
    have hs := h1'.setA m (wrap64 (f[m] + 1))
    rw [HS.out]
    refine ⟨rfl, ?_, F, ?_, fun x k => .inl k⟩
    · exact Upd.setCell (S := F) (upd_of_ext hx1) (p := ⟨gA, m, none⟩) hfa _
    · have e : incAt f m = f.set m (wrap64 (f[m] + 1)) := by unfold incAt; rw [HF.out]
      simp only [if_true, Bool.false_eq_true, if_false, e]
      exact hs
  | false =>
    have hl : m < r.length := by rw [h.lb]; exact hm2
    have HF := hid_ (show r.getD m 0 = r[m] by simp [List.getD_eq_getElem?_getD, hl])
    have hm3 : (m : Int) < 256 := by omega
    go_enter Tryd.func74, Tryd.ntmps74
    go_wp2_with (first
      | (show wpList _ _ _ (⟨some 4, _, _, _, _, _⟩ :: _) _ _; refine wpList_box_abs rfl 60 (.tmp 0) rfl #[.int .i64 (m : Int), .int .i64 t2, .int .i64 t3] rfl ?_; intro w1 g1 hb1 hx1 hg1; have h1' := h.keep (upd_of_ext (S := fun _ => False) hx1) (fun _ k => k.elim); have q0 : w1.cell? ⟨g1, 0, none⟩ = some (.int .i64 (m : Int)) := hb1.cell 0; have hp1 := (h1'.hq.cell 0).trans (show (#[Value.slice (some ⟨gB, 0, none⟩) 256 256] : Array Value)[0]? = some (.slice (some ⟨gB, 0, none⟩) 256 256) from rfl); have hc1 : w1.cell? ⟨gB, m, none⟩ = some (.int .i64 r[m]) := (h1'.hb.cell m).trans (bv_at r m hl); have hz1 := h1'.hb.frozen m)
      | (show wpList _ _ _ (⟨some 20, _, _, _, _, _⟩ :: _) _ _; refine wl_run rfl (.int .i64 (wrap64 (r[m] + 1))) (ex_bin rfl rfl rfl (run_inc _)) ?_))
    go_ret
    have hs := h1'.setB m (wrap64 (r[m] + 1))
    rw [HS.out]
    refine ⟨rfl, ?_, F, ?_, fun x k => .inl k⟩
    · exact Upd.setCell (S := F) (upd_of_ext hx1) (p := ⟨gB, m, none⟩) hfb _
    · have e : incAt r m = r.set m (wrap64 (r[m] + 1)) := by unfold incAt; rw [HF.out]
      simp only [if_true, Bool.false_eq_true, if_false, e]
      exact hs
theorem goesCnt : Goes Tryd.prog 74 := ⟨_, Tryd.func74, by kernel_rfl, by kernel_rfl⟩
theorem countEat (p q gA gB : Nat) : Eat 74 #[.pointer (some ⟨p, 0, none⟩), .pointer (some ⟨q, 0, none⟩)] (CntIn p q gA gB) cntStep (fun _ => True) :=
  ⟨goesCnt, fun _ _ _ => trivial, fun t b s F W _ hw h => by simpa using countFn_any p q gA gB t b s F W hw h, fun s F W W' h hx => h.keep (T := fun _ => False) (upd_of_ext hx) (fun _ k => k.elim), fun s F W x h hx => by
    rcases (h.hF x).1 hx with rfl | rfl | rfl | rfl
    · exact h.hp.lt
    · exact h.hq.lt
    · exact h.ha.lt
    · exact h.hb.lt⟩
end Go.Proofs.YtgmddhljgfbibaaDoor
/- A region that draws its order, by an invariant: J of what has come, the frame and the world; each operation that may come up keeps it. -/
namespace Go.Proofs.YtgmddhljgfbibaaDoor
set_option linter.unusedVariables false
set_option linter.unusedSimpArgs false
open Go.RowKit
section
variable {P : Program} {md : Region.Mode} {ops : Array Oper} {J : Array Bool → Act → World → Prop} {QN : Act → World → Prop}
theorem count_set (l : Array Bool) (i : Nat) (h : l.getD i true = false) : (l.setIfInBounds i true).toList.count false + 1 = l.toList.count false := by
  have hi : i < l.size := by
    rcases Nat.lt_or_ge i l.size with h1 | h1
    · exact h1
    · rw [Array.getD_eq_getD_getElem?, Array.getElem?_eq_none h1] at h; cases h
  have h0 : l.toList[i]'(by simpa using hi) = false := by
    rw [Array.getD_eq_getD_getElem?, Array.getElem?_eq_getElem hi] at h
    simpa using h
  rw [Array.toList_setIfInBounds]
  rw [List.count_set (by simpa using hi), h0]
  have : 0 < l.toList.count false := List.count_pos_iff.2 (h0 ▸ List.getElem_mem _)
  simp only [show ((false : Bool) == false) = true from rfl, show ((true : Bool) == false) = false from rfl, if_true, Bool.false_eq_true, if_false]
  omega
theorem wpAny_inv (hstep : ∀ listed a w, J listed a w → ∀ i ∈ Region.ready md ops listed, wpOp P ops (onlyN QN) i (fun a' w' => J (listed.setIfInBounds i true) a' w') a w)
    (hdone : ∀ listed a w, J listed a w → Region.ready md ops listed = [] → QN a w) : ∀ (f : Nat) (listed : Array Bool) (a : Act) (w : World), listed.toList.count false ≤ f → J listed a w → wpAny P md ops (onlyN QN) f listed a w
  | 0, listed, a, w, hf, h => by
    have hr : Region.ready md ops listed = [] := by
      cases hq : Region.ready md ops listed with
      | nil => rfl
      | cons i r =>
        have hi : i ∈ Region.ready md ops listed := by rw [hq]; simp
        have := count_set listed i (mem_ready.1 hi).1
        omega
    exact ⟨hr, hdone _ _ _ h hr⟩
  | f + 1, listed, a, w, hf, h => ⟨fun h0 => hdone _ _ _ h h0, fun i hi => wpOp_mono (fun a' w' h' => wpAny_inv hstep hdone f _ a' w' (by have := count_set listed i (mem_ready.1 hi).1; omega) h') (hstep _ _ _ h i hi)⟩
theorem wp_region_inv (J : Array Bool → Act → World → Prop) {id : Nat} {a : Act} {w : World} {l : List Oper} {Q : Exit → Act → World → Prop} (hm : P.follows .mixedOrders = true) (h0 : J (Array.replicate l.length false) a w.drew)
    (hstep : ∀ listed a w, J listed a w → ∀ i ∈ Region.ready .any l.toArray listed, wpOp P l.toArray (onlyN fun a w => Q .normal a w) i (fun a' w' => J (listed.setIfInBounds i true) a' w') a w)
    (hdone : ∀ listed a w, J listed a w → Region.ready .any l.toArray listed = [] → Q .normal a w) : (Code.region id l.toArray true).wp P Q a w := by
  refine Code.wp_mono (Q := onlyN (fun a w => Q .normal a w)) (fun e a w h => ?_) (wp_region_any hm (wpAny_inv hstep hdone _ _ _ _ ?_ ?_))
  · cases e <;> first | exact h | exact (h : False).elim
  · simp
  · simpa using h0
end
end Go.Proofs.YtgmddhljgfbibaaDoor
/- seg.Counts. -/
namespace Go.Proofs.YtgmddhljgfbibaaDoor
set_option linter.unusedVariables false
set_option linter.unusedSimpArgs false
open Go.RowKit
def z256 : List Int := List.replicate 256 0
theorem z256_out : bv (List.replicate 256 0) = bv z256 := rfl
theorem z256_len : z256.length = 256 := List.length_replicate
/-- a made row in a slot, once it has come -/
def MadeAt (w0 w : World) (l : Bool) (u : Value) : Prop := l = true → ∃ g, u = .slice (some ⟨g, 0, none⟩) 256 256 ∧ Blk w g 3 (bv z256) ∧ w0.heap.size ≤ g
/-- a cell in a slot, once it has come; s: it holds v -/
def CellIn (w0 w : World) (l s : Bool) (u v : Value) : Prop := l = true → ∃ g, u = .pointer (some ⟨g, 0, none⟩) ∧ Blk w g 30 #[if s then v else .slice none 0 0] ∧ w0.heap.size ≤ g
theorem MadeAt.ext {w0 w w' : World} {l : Bool} {u : Value} (h : MadeAt w0 w l u) (hx : Ext w w') : MadeAt w0 w' l u := fun e => by obtain ⟨g, h1, h2, h3⟩ := h e; exact ⟨g, h1, h2.ext hx, h3⟩
theorem CellIn.ext {w0 w w' : World} {l s : Bool} {u v : Value} (h : CellIn w0 w l s u v) (hx : Ext w w') : CellIn w0 w' l s u v := fun e => by obtain ⟨g, h1, h2, h3⟩ := h e; exact ⟨g, h1, h2.ext hx, h3⟩
attribute [local irreducible] bv z256 eachZ
def CntFrame (v0 u5 u6 u8 u9 : Value) : Act := ⟨#[v0, undef, .slice none 0 0, .slice none 0 0, .int .i64 0, u5, u6, undef, u8, u9, undef, undef, undef, undef, undef, undef, undef, undef], []⟩
def CntJ (w0 : World) (v0 : Value) (l : Array Bool) (a : Act) (w : World) : Prop :=
  ∃ b0 b1 b2 b3 b4 b5 u5 u6 u8 u9, l = #[b0, b1, b2, b3, b4, b5] ∧ a = CntFrame v0 u5 u6 u8 u9 ∧ Ext w0 w ∧ MadeAt w0 w b0 u8 ∧ MadeAt w0 w b1 u9 ∧ CellIn w0 w b2 b4 u5 u8 ∧ CellIn w0 w b3 b5 u6 u9 ∧
    (b0 = true → b1 = true → u8 ≠ u9) ∧ (b2 = true → b3 = true → u5 ≠ u6) ∧ (b4 = true → b0 = true ∧ b2 = true) ∧ (b5 = true → b1 = true ∧ b3 = true)
theorem MadeAt.ne {w0 w : World} {l : Bool} {u : Value} (h : MadeAt w0 w l u) {g : Nat} (hg : w.heap.size ≤ g) (hl : l = true) : u ≠ .slice (some ⟨g, 0, none⟩) 256 256 := by
  obtain ⟨g', rfl, hb, -⟩ := h hl
  intro e
  injection e with e
  injection e with e
  injection e with e
  have := hb.lt
  omega
theorem CellIn.ne {w0 w : World} {l s : Bool} {u v : Value} (h : CellIn w0 w l s u v) {g : Nat} (hg : w.heap.size ≤ g) (hl : l = true) : u ≠ .pointer (some ⟨g, 0, none⟩) := by
  obtain ⟨g', rfl, hb, -⟩ := h hl
  intro e
  injection e with e
  injection e with e
  injection e with e
  have := hb.lt
  omega
theorem ready_at {md : Region.Mode} {ops : Array Oper} {l : Array Bool} {i : Nat} {o : Oper} (h : i ∈ Region.ready md ops l) (ho : ops[i]? = some o) : l.getD i true = false ∧ ∀ e ∈ o.after, Region.binds md e = true → l.getD e.on false = true := by
  obtain ⟨h1, o', h2, h3⟩ := mem_ready.1 h
  rw [ho] at h2
  injection h2 with h2
  subst h2
  exact ⟨h1, h3⟩
theorem MadeAt.set {w0 w : World} {l : Bool} {u : Value} (h : MadeAt w0 w l u) {g : Nat} {cs : Array Value} (hb : Blk w g 30 cs) (v : Value) : MadeAt w0 (w.setCell ⟨g, 0, none⟩ v) l u := fun e => by
  obtain ⟨g', h1, h2, h3⟩ := h e
  exact ⟨g', h1, h2.far (p := ⟨g, 0, none⟩) (hb.ne_ h2 tInt_ne).symm v, h3⟩
/-- what Counts hands back -/
def CountsIs (w : World) (r : Int × (List Int × List Int)) (e : Ending) (w' : World) : Prop :=
  Ext w w' ∧ if r.1 = 0 then ∃ gA gB, e = .returned (.tuple #[.slice (some ⟨gA, 0, none⟩) 256 256, .slice (some ⟨gB, 0, none⟩) 256 256, .int .i64 0]) ∧ Blk w' gA 3 (bv r.2.1) ∧ Blk w' gB 3 (bv r.2.2) ∧ r.2.1.length = 256 ∧ r.2.2.length = 256
    else e = .returned (.tuple #[.slice none 0 0, .slice none 0 0, .int .i64 r.1])
theorem run_loadSlI (W : World) (p : Addr) (A : Option Addr) (n c : Nat) (h : W.cell? p = some (.slice A n c)) : (Instr.loadAt 30 (.pointer (some p))).run Tryd.prog W = .ok (.slice A n c) W := by
  go_simp
section
variable {o : Oper} {a : Act}
theorem ex_loadSI {x : Operand} (ho : o.op = .load 30 x) {p : Addr} (hx : a.eval x = .pointer (some p)) {A : Option Addr} {n c : Nat} {w : World} (h : w.cell? p = some (.slice A n c)) : (execOp a.eval o).run Tryd.prog w = .ok (.value (.slice A n c)) w := by
  simp [execOp, ho, hx, run_loadSlI w p A n c h]
end
theorem nilZero : (Tryd.prog.info? 30).bind (·.zero) = some (.slice none 0 0) := by kernel_rfl
set_option maxRecDepth 20000 in
set_option maxHeartbeats 2000000 in
theorem counts_any (A : Option Addr) (n c : Nat) (Z : List Int) (hZ : Z.length = n * 64) (w : World) (hs : SL w 64 (.slice A n c) n (ints Z)) :
    Calls Tryd.prog 49 #[.slice A n c] w (CountsIs w (eachZ cntStep n Z (z256, z256))) := by
  have hmf : ∀ (fn : Fn) (first cap : Array Value) (w : World), (Instr.makeFunc fn first cap).run Tryd.prog w = .ok (.func fn first cap) w := fun _ _ _ _ => rfl
  go_enter Tryd.func49, Tryd.ntmps49
  go_upto_region 1 with fail
  refine wp_region_inv (CntJ w (.slice A n c)) (by kernel_rfl) ?_ ?_ ?_
  · exact ⟨false, false, false, false, false, false, undef, undef, undef, undef, rfl, rfl, (Ext.refl w).drew, (fun h => by cases h), (fun h => by cases h), (fun h => by cases h), (fun h => by cases h), (fun h => by cases h), (fun h => by cases h), (fun h => by cases h), (fun h => by cases h)⟩
  · rintro l a w1 ⟨b0, b1, b2, b3, b4, b5, u5, u6, u8, u9, rfl, rfl, hx, h8, h9, h5, h6, d8, d5, k4, k5⟩ i hi
    have hi6 : i = 0 ∨ i = 1 ∨ i = 2 ∨ i = 3 ∨ i = 4 ∨ i = 5 := by
      obtain ⟨h1, o, ho, -⟩ := mem_ready.1 hi
      have : i < 6 := by
        rcases Nat.lt_or_ge i 6 with h | h
        · exact h
        · rw [Array.getElem?_eq_none (by simpa using h)] at ho; cases ho
      omega
    unfold CntFrame
    rcases hi6 with rfl | rfl | rfl | rfl | rfl | rfl
    · have r := (ready_at hi rfl).1
      have r0 : b0 = false := r
      subst r0
      have r4 : b4 = false := by cases b4 with | false => rfl | true => exact absurd (k4 rfl).1 (by simp)
      subst r4
      refine wpOp_of_list rfl ?_
      refine wpList_makeInts rfl (some 8) rfl _ _ rfl 256 (by omega) rfl rfl ?_
      intro w2 g hb hx2 hg
      rw [z256_out] at hb
      exact ⟨true, b1, b2, b3, false, b5, u5, u6, _, u9, rfl, rfl, hx.trans hx2, fun _ => ⟨g, rfl, hb, by have := hx.size; omega⟩, h9.ext hx2, h5.ext hx2, h6.ext hx2, fun _ e => (h9.ne hg e).symm, d5, (fun e => by cases e), k5⟩
    · have r1 : b1 = false := (ready_at hi rfl).1
      subst r1
      have r5 : b5 = false := by cases b5 with | false => rfl | true => exact absurd (k5 rfl).1 (by simp)
      subst r5
      refine wpOp_of_list rfl ?_
      refine wpList_makeInts rfl (some 9) rfl _ _ rfl 256 (by omega) rfl rfl ?_
      intro w2 g hb hx2 hg
      rw [z256_out] at hb
      exact ⟨b0, true, b2, b3, b4, false, u5, u6, u8, _, rfl, rfl, hx.trans hx2, h8.ext hx2, fun _ => ⟨g, rfl, hb, by have := hx.size; omega⟩, h5.ext hx2, h6.ext hx2, fun e _ => h8.ne hg e, d5, k4, fun e => by cases e⟩
    · have r2 : b2 = false := (ready_at hi rfl).1
      subst r2
      have r4 : b4 = false := by cases b4 with | false => rfl | true => exact absurd (k4 rfl).2 (by simp)
      subst r4
      refine wpOp_of_list rfl ?_
      refine wpList_alloc_abs' rfl (some 5) rfl 30 rfl _ nilZero ?_
      intro w2 g hb hx2 hg
      exact ⟨b0, b1, true, b3, false, b5, _, u6, u8, u9, rfl, rfl, hx.trans hx2, h8.ext hx2, h9.ext hx2, fun _ => ⟨g, rfl, hb, by have := hx.size; omega⟩, h6.ext hx2, d8, fun _ e => (h6.ne hg e).symm, (fun e => by cases e), k5⟩
    · have r3 : b3 = false := (ready_at hi rfl).1
      subst r3
      have r5 : b5 = false := by cases b5 with | false => rfl | true => exact absurd (k5 rfl).2 (by simp)
      subst r5
      refine wpOp_of_list rfl ?_
      refine wpList_alloc_abs' rfl (some 6) rfl 30 rfl _ nilZero ?_
      intro w2 g hb hx2 hg
      exact ⟨b0, b1, b2, true, b4, false, u5, _, u8, u9, rfl, rfl, hx.trans hx2, h8.ext hx2, h9.ext hx2, h5.ext hx2, fun _ => ⟨g, rfl, hb, by have := hx.size; omega⟩, d8, fun e _ => h5.ne hg e, k4, fun e => by cases e⟩
    · have r4 : b4 = false := (ready_at hi rfl).1
      subst r4
      have e := (ready_at hi rfl).2
      simp [Region.binds] at e
      obtain ⟨-, r0, r2, r3⟩ := e
      subst r0 r2 r3
      obtain ⟨g5, rfl, hb5, hl5⟩ := h5 rfl
      obtain ⟨g8, rfl, hb8, hl8⟩ := h8 rfl
      simp only [Bool.false_eq_true, if_false] at hb5
      have hc : w1.cell? ⟨g5, 0, none⟩ = some (.slice none 0 0) := hb5.cell 0
      have hz := hb5.frozen 0
      refine wpOp_of_list rfl ?_
      go_wp2_with fail
      obtain ⟨g6, rfl, hb6, hl6⟩ := h6 rfl
      have hne : g6 ≠ g5 := fun e => d5 trivial trivial (by rw [e])
      exact ⟨true, b1, true, true, true, b5, _, _, _, u9, rfl, rfl, hx.setCell hl5 _, h8.set hb5 _, h9.set hb5 _, fun _ => ⟨g5, rfl, hb5.set_ 0 _, hl5⟩, fun _ => ⟨g6, rfl, hb6.far (p := ⟨g5, 0, none⟩) hne _, hl6⟩, fun _ => d8 trivial, fun _ _ => d5 trivial trivial, fun _ => ⟨rfl, rfl⟩, fun e => ⟨(k5 e).1, rfl⟩⟩
    · have r5 : b5 = false := (ready_at hi rfl).1
      subst r5
      have e := (ready_at hi rfl).2
      simp [Region.binds] at e
      have e1 : b1 = true := by simp_all
      have e3 : b3 = true := by simp_all
      have e2 : b2 = true := by simp_all
      subst e1 e2 e3
      obtain ⟨g6, rfl, hb6, hl6⟩ := h6 rfl
      obtain ⟨g9, rfl, hb9, hl9⟩ := h9 rfl
      simp only [Bool.false_eq_true, if_false] at hb6
      have hc : w1.cell? ⟨g6, 0, none⟩ = some (.slice none 0 0) := hb6.cell 0
      have hz := hb6.frozen 0
      clear e
      refine wpOp_of_list rfl ?_
      go_wp2_with fail
      obtain ⟨g5, rfl, hb5, hl5⟩ := h5 rfl
      have hne : g5 ≠ g6 := fun e => d5 trivial trivial (by rw [e])
      exact ⟨b0, true, true, true, b4, true, _, _, u8, _, rfl, rfl, hx.setCell hl6 _, h8.set hb6 _, h9.set hb6 _, fun _ => ⟨g5, rfl, hb5.far (p := ⟨g6, 0, none⟩) hne _, hl5⟩, fun _ => ⟨g6, rfl, hb6.set_ 0 _, hl6⟩, fun e _ => d8 e trivial, fun _ _ => d5 trivial trivial, fun e => ⟨(k4 e).1, rfl⟩, fun _ => ⟨rfl, rfl⟩⟩
  · rintro l a w1 ⟨b0, b1, b2, b3, b4, b5, u5, u6, u8, u9, rfl, rfl, hx, h8, h9, h5, h6, d8, d5, k4, k5⟩ hr
    have no : ∀ i, ¬ i ∈ Region.ready .any _ #[b0, b1, b2, b3, b4, b5] := fun i hi => by rw [hr] at hi; cases hi
    have r0 : b0 = true := by
      cases b0 with
      | true => rfl
      | false => exact absurd (mem_ready.2 ⟨rfl, _, rfl, by simp⟩) (no 0)
    have r1 : b1 = true := by
      cases b1 with
      | true => rfl
      | false => exact absurd (mem_ready.2 ⟨rfl, _, rfl, by simp⟩) (no 1)
    have r2 : b2 = true := by
      cases b2 with
      | true => rfl
      | false => exact absurd (mem_ready.2 ⟨rfl, _, rfl, by simp⟩) (no 2)
    have r3 : b3 = true := by
      cases b3 with
      | true => rfl
      | false => exact absurd (mem_ready.2 ⟨rfl, _, rfl, by simp⟩) (no 3)
    subst r0 r1 r2 r3
    have r4 : b4 = true := by
      cases b4 with
      | true => rfl
      | false => exact absurd (mem_ready.2 ⟨rfl, _, rfl, by simp [Region.binds]⟩) (no 4)
    subst r4
    have r5 : b5 = true := by
      cases b5 with
      | true => rfl
      | false => exact absurd (mem_ready.2 ⟨rfl, _, rfl, by simp [Region.binds]⟩) (no 5)
    subst r5
    obtain ⟨gA, rfl, hbA, hlA⟩ := h8 rfl
    obtain ⟨gB, rfl, hbB, hlB⟩ := h9 rfl
    obtain ⟨p, rfl, hbp, hlp⟩ := h5 rfl
    obtain ⟨q, rfl, hbq, hlq⟩ := h6 rfl
    simp only [if_true] at hbp hbq
    have hI : CntIn p q gA gB w1 (z256, z256) (fun x => x = p ∨ x = q ∨ x = gA ∨ x = gB) := ⟨hbp, hbq, hbA, hbB, z256_len, z256_len, fun e => d8 rfl rfl (by rw [e]), fun x => Iff.rfl⟩
    have hs1 := hs.ext hx
    have HE := hid_ (each_any (countEat p q gA gB) A n c Z hZ w1 hs1 (z256, z256) _ hI (fun ad e h0 k => by
      obtain ⟨A', c', e2, -, -, -, h5⟩ := hs
      injection e2 with e3 _ _
      subst e3
      obtain ⟨ad', e4, h6, -⟩ := h5 h0
      rw [e] at e4
      injection e4 with e4
      subst e4
      omega) trivial)
    unfold EachIs at HE
    generalize eachZ cntStep n Z (z256, z256) = R at *
    obtain ⟨x, s⟩ := R
    dsimp only at HE
    unfold CntFrame
    clear hbA hbB hbp hbq hI hs hs1 h8 h9 h5 h6 d8 d5 k4 k5 hr no hZ
    by_cases hx0 : x = 0
    · subst hx0
      obtain ⟨f, r⟩ := s
      go_upto_region 5 with (go_at_call 23; (with_reducible refine (HE.out).mono ?_); rintro e w3 ⟨rfl, hu3, F', hI3, -⟩)
      have hI4 : CntIn p q gA gB w3.drew (f, r) F' := hI3.keep (T := fun _ => False) (Upd.refl _ _).drew (fun _ k => k.elim)
      refine wp_region_lx later_ext (by kernel_rfl) (by kernel_rfl) ?_
      refine lx_read (by rfl) (.slice (some ⟨gA, 0, none⟩) 256 256) (fun W hW => ex_loadSI rfl rfl ((hI4.hp.ext hW).cell 0)) ?_
      simp only [Act.put, List.setIfInBounds_toArray, List.set_cons_succ, List.set_cons_zero]
      refine lx_read (by rfl) (.slice (some ⟨gB, 0, none⟩) 256 256) (fun W hW => ex_loadSI rfl rfl ((hI4.hq.ext hW).cell 0)) ?_
      simp only [Act.put, List.setIfInBounds_toArray, List.set_cons_succ, List.set_cons_zero]
      refine lx_run (by rfl) (.slice (some ⟨gA, 0, none⟩) 256 256) (ex_assign rfl rfl) ?_
      simp only [Act.put, List.setIfInBounds_toArray, List.set_cons_succ, List.set_cons_zero]
      refine lx_run (by rfl) (.slice (some ⟨gB, 0, none⟩) 256 256) (ex_assign rfl rfl) ?_
      simp only [Act.put, List.setIfInBounds_toArray, List.set_cons_succ, List.set_cons_zero]
      refine lx_run (by rfl) (.int .i64 0) (ex_assign rfl rfl) ?_
      simp only [Act.put, List.setIfInBounds_toArray, List.set_cons_succ, List.set_cons_zero]
      refine lx_nil ?_
      intro w5 hx5
      go_wp2_with fail
      refine bodyPost_ret (results_tmp3 rfl _ _ _) rfl ?_
      have hx3 : Ext w w3.drew := (hu3.ext hx (fun y k => by rcases k with rfl | rfl | rfl | rfl <;> assumption)).drew
      refine ⟨hx3.trans hx5, ?_⟩
      rw [if_pos rfl]
      exact ⟨gA, gB, rfl, hI4.ha.ext hx5, hI4.hb.ext hx5, hI4.la, hI4.lb⟩
    · have hxb : (x != 0) = true := by simpa using hx0
      have HX := hid_ hx0
      clear hx0
      go_wp2_with (go_at_call 23; (with_reducible refine (HE.out).mono ?_); rintro e w3 ⟨rfl, hu3, -⟩)
      refine bodyPost_ret (results_tmp3 rfl _ _ _) rfl ?_
      refine ⟨hu3.ext hx (fun y k => by rcases k with rfl | rfl | rfl | rfl <;> assumption), ?_⟩
      rw [if_neg HX.out]
      rfl
end Go.Proofs.YtgmddhljgfbibaaDoor
