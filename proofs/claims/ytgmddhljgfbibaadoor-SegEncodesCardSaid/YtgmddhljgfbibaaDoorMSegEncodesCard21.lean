/- Contracts for the law SegEncodesCard, part 21: what the functions that it reaches answer, for all arguments that the theorems name. -/
import Derived.Test.YtgmddhljgfbibaaDoorMSegEncodesCard10
import Derived.Test.YtgmddhljgfbibaaDoorMSegEncodesCard15
import Derived.Test.YtgmddhljgfbibaaDoorMSegEncodesCard13
import Derived.Test.YtgmddhljgfbibaaDoorMSegEncodesCard20
import Derived.Test.YtgmddhljgfbibaaDoorMSegEncodesCard17
import Derived.Test.YtgmddhljgfbibaaDoorRows
import Derived.Test.YtgmddhljgfbibaaDoorMSegEncodesCard1
import Derived.ProofKit
import Derived.OpenShut
import Derived.JoinedCond
import Derived.Test.YtgmddhljgfbibaaDoorCards
import Derived.Test.YtgmddhljgfbibaaDoorTie
import Derived.WalkKit
import Derived.Deep.DeepHandedRow
import Derived.Lib.LaidTab
import Derived.Shelf.Vars
/- bad of the law's package: a table that may not be. -/
namespace Go.Proofs.YtgmddhljgfbibaaDoor
set_option linter.unusedVariables false
set_option linter.unusedSimpArgs false
open Go.RowKit
theorem size_tbl_row (sl : Value) : (tblv (List.replicate 16 0) sl).size = 17 := by simp [tblv, ints]
set_option maxRecDepth 20000 in
set_option maxHeartbeats 400000 in
theorem bad_any (w : World) : Calls Tryd.prog 14 #[] w fun e w' => ∃ g, e = .returned (.agg (tblv (List.replicate 16 0) (.slice (some ⟨g, 0, none⟩) 1 1))) ∧ SL w' 1 (.slice (some ⟨g, 0, none⟩) 1 1) 1 (ints [1]) ∧ Ext w w' := by
  go_enter Tryd.func14, Tryd.ntmps14
  go_wp2_with fail
  refine ret_cell rfl rfl _ rfl ((Blk.new w 32 _).alloc _) _ Tryd.underlying32 rfl 17 sizeTbl rfl ⟨w.heap.size + 1, rfl, ?_, ((Ext.refl w).alloc _).alloc _⟩
  have h := (Blk.new (w.alloc (.cells (tblv (List.replicate 16 0) (.slice (some ⟨w.heap.size + 1, 0, none⟩) 1 1)) 32)) 3 #[.int .i64 1]).sl (size := 1) (n := 1) (c := 1) rfl (by omega) (by omega)
  rw [World.size_alloc] at h
  exact h
end Go.Proofs.YtgmddhljgfbibaaDoor
/- Opening a parameter that is a file. -/
namespace Go.Proofs.YtgmddhljgfbibaaDoor
set_option linter.unusedVariables false
set_option linter.unusedSimpArgs false
open Go.RowKit Go.ChangeShapes Go.WideShapes Go.ChangeAt
section
variable {H : Type} {enc : TypeId × Value → H} {w : World} {base : Nat} {spare : Nat → Bool} {held : Bool}
theorem trod_struct7 {P : Program} {t : TypeId} {f0 f1 f2 f3 f4 f5 f6 : Field} {fuel : Nat} {cs : List Value} {x : DataW H × List MemPlace} (ht : P.underlying t = some (.struct #[f0, f1, f2, f3, f4, f5, f6])) (h : DataW.trod enc P w base spare held fuel t cs = some x) :
    ∃ y0 y1 y2 y3 y4 y5 y6 n, cs.length = P.cellsOf t ∧ DataW.trod enc P w base spare held n f0.type ((cs.drop f0.offset).take (P.cellsOf f0.type)) = some y0 ∧
      DataW.trod enc P w base spare held n f1.type ((cs.drop f1.offset).take (P.cellsOf f1.type)) = some y1 ∧ DataW.trod enc P w base spare held n f2.type ((cs.drop f2.offset).take (P.cellsOf f2.type)) = some y2 ∧
      DataW.trod enc P w base spare held n f3.type ((cs.drop f3.offset).take (P.cellsOf f3.type)) = some y3 ∧ DataW.trod enc P w base spare held n f4.type ((cs.drop f4.offset).take (P.cellsOf f4.type)) = some y4 ∧
      DataW.trod enc P w base spare held n f5.type ((cs.drop f5.offset).take (P.cellsOf f5.type)) = some y5 ∧ DataW.trod enc P w base spare held n f6.type ((cs.drop f6.offset).take (P.cellsOf f6.type)) = some y6 := by
  obtain ⟨xs, n, _, rfl, hl, hlen, hf⟩ := DataW.trod_struct ht h
  match xs, hlen with
  | [y0, y1, y2, y3, y4, y5, y6], _ => exact ⟨y0, y1, y2, y3, y4, y5, y6, n, hl, by simpa using hf 0 f0 rfl, by simpa using hf 1 f1 rfl, by simpa using hf 2 f2 rfl, by simpa using hf 3 f3 rfl, by simpa using hf 4 f4 rfl, by simpa using hf 5 f5 rfl, by simpa using hf 6 f6 rfl⟩
theorem cellsTbls : Tryd.prog.cellsOf 34 = 34 := by kernel_rfl
theorem cellsBy : Tryd.prog.cellsOf 22 = 1 := by kernel_rfl
theorem open_tableX {fuel : Nat} {cs : List Value} {x : DataW H × List MemPlace} (hL : cs.length = 17) (hf : DataW.trod enc Tryd.prog w base spare held fuel 32 cs = some x) :
    ∃ (zs xs : List Int) (sl : Value), cs = tblL zs sl ∧ zs.length = 16 ∧ SL w 1 sl xs.length (ints xs) := by
  obtain ⟨y0, y1, n, -, hlen, h0, h1⟩ := trod_struct2 Tryd.underlying32 hf
  dsimp only at h0 h1
  obtain ⟨zs, hz, hc, hq⟩ := trod_ints_arr Tryd.underlying29 Tryd.underlying3 cellsInt cells16 h0
  obtain ⟨xs, sl, hs, hsl, hxq⟩ := open_intsX h1
  rw [cells16, List.drop_zero] at hc
  rw [cellsSl] at hs
  refine ⟨zs, xs, sl, ?_, hz, hsl⟩
  have e2 : cs.drop 16 = [sl] := by
    rw [← hs]
    rw [List.take_of_length_le (by rw [List.length_drop, hL]; omega)]
  unfold tblL
  rw [← hc, ← e2, List.take_append_drop]
theorem open_bytesX {fuel : Nat} {cs : List Value} {x : DataW H × List MemPlace} (hf : DataW.trod enc Tryd.prog w base spare held fuel 22 cs = some x) :
    ∃ (v : Value) (bs : List Nat), cs = [v] ∧ SL w 1 v bs.length (bytesV bs) := by
  rcases open_ints Tryd.underlying22 Tryd.underlying5 (by kernel_rfl) hf with ⟨rfl, -⟩ | ⟨a, len, cap, zs, rfl, -, hlc, hcm, hzl, -, hcell, hwf⟩
  · exact ⟨_, [], rfl, SL.nil w 1⟩
  · have hlen : len ≤ zs.length := by rw [hzl]; split <;> omega
    obtain ⟨bs, hbs, hlt⟩ := bytes_of (zs.take len) (fun n hn => hwf n (List.mem_of_mem_take hn))
    have hl : bs.length = len := by
      have := congrArg List.length hbs
      simp [bytesV] at this
      omega
    refine ⟨_, bs, rfl, ?_⟩
    rw [hl]
    refine ⟨some a, cap, rfl, hlc, by unfold maxLen at hcm; omega, by rw [bytesV_len, hl]; omega, fun h0 => ⟨a, rfl, ?_, fun j u hu => ?_⟩⟩
    · have := hcell 0 (by omega)
      have h2 := World.block_lt_of_cell? w _ this
      rwa [block_of_add] at h2
    · rw [← hbs, List.getElem?_map] at hu
      obtain ⟨z, hz, rfl⟩ := Option.map_eq_some_iff.1 hu
      have hj : j < len := by have := (List.getElem?_eq_some_iff.1 hz).1; simp at this; omega
      rw [List.getElem?_take_of_lt hj] at hz
      rw [hcell j (by omega)]
      simp [List.getD_eq_getElem?_getD, hz]
theorem one_at {cs : List Value} {i : Nat} {v : Value} (h : (cs.drop i).take 1 = [v]) : cs[i]? = some v := by
  have := congrArg (·[0]?) h
  simpa using this
theorem parts_of (cs : List Value) (hL : cs.length = 103) {a b c e f : Value} {q t1 t2 : List Value} (h0 : (cs.drop 0).take 1 = [a]) (h1 : (cs.drop 1).take 1 = [b]) (h2 : (cs.drop 2).take 1 = [c]) (h3 : (cs.drop 3).take 64 = q)
    (h4 : (cs.drop 67).take 17 = t1) (h5 : (cs.drop 84).take 17 = t2) (h6 : (cs.drop 101).take 1 = [e]) (h7 : (cs.drop 102).take 1 = [f]) : cs = [a, b, c] ++ q ++ t1 ++ t2 ++ [e, f] := by
  have k7 : cs.drop 102 = [f] := by rw [← h7, List.take_of_length_le (by rw [List.length_drop, hL]; omega)]
  have k6 : cs.drop 101 = [e, f] := by rw [← List.take_append_drop 1 (cs.drop 101), h6, List.drop_drop]; rw [k7]; rfl
  have k5 : cs.drop 84 = t2 ++ [e, f] := by rw [← List.take_append_drop 17 (cs.drop 84), h5, List.drop_drop]; rw [k6]
  have k4 : cs.drop 67 = t1 ++ (t2 ++ [e, f]) := by rw [← List.take_append_drop 17 (cs.drop 67), h4, List.drop_drop]; rw [k5]
  have k3 : cs.drop 3 = q ++ (t1 ++ (t2 ++ [e, f])) := by rw [← List.take_append_drop 64 (cs.drop 3), h3, List.drop_drop]; rw [k4]
  have k2 : cs.drop 2 = c :: (q ++ (t1 ++ (t2 ++ [e, f]))) := by rw [← List.take_append_drop 1 (cs.drop 2), h2, List.drop_drop]; rw [k3]; rfl
  have k1 : cs.drop 1 = b :: c :: (q ++ (t1 ++ (t2 ++ [e, f]))) := by rw [← List.take_append_drop 1 (cs.drop 1), h1, List.drop_drop]; rw [k2]; rfl
  rw [← List.take_append_drop 1 cs, k1, show cs.take 1 = [a] from h0]
  simp
set_option maxRecDepth 20000 in
theorem open_tables {b0 : Nat} {r : Reach} {v : Value} {d : DataW H} {p : List MemPlace} (hv : Value.okWide Tryd.prog w r b0 34 v) (h : DataW.Trod enc Tryd.prog w base spare held 34 v d p) :
    ∃ (cs1 xs1 : List Int) (s1 : Value) (cs2 xs2 : List Int) (s2 : Value), v = .agg (tblL cs1 s1 ++ tblL cs2 s2).toArray ∧ cs1.length = 16 ∧ cs2.length = 16 ∧ SL w 1 s1 xs1.length (ints xs1) ∧ SL w 1 s2 xs2.length (ints xs2) := by
  obtain ⟨cs, rfl, hsz⟩ := okWide_struct Tryd.underlying34 hv
  obtain ⟨fuel, hf⟩ := h
  obtain ⟨z0, z1, m, -, hlen4, g0, g1⟩ := trod_struct2 Tryd.underlying34 hf
  have hL : cs.toList.length = 34 := by rw [show cs.toList.length = cs.size by simp, hsz, cellsTbls]
  have hcs : (Value.agg cs).cells.toList = cs.toList := rfl
  rw [hcs] at g0 g1
  dsimp only at g0 g1
  rw [cellsTbl, List.drop_zero] at g0
  rw [cellsTbl] at g1
  obtain ⟨cs1, xs1, s1, e4, hc1, hs1⟩ := open_tableX (by rw [List.length_take, hL]; rfl) g0
  obtain ⟨cs2, xs2, s2, e6, hc2, hs2⟩ := open_tableX (by rw [List.length_take, List.length_drop, hL]; rfl) g1
  refine ⟨cs1, xs1, s1, cs2, xs2, s2, ?_, hc1, hc2, hs1, hs2⟩
  congr 1
  apply Array.ext'
  show cs.toList = _
  rw [List.take_of_length_le (by rw [List.length_drop, hL]; omega)] at e6
  rw [← List.take_append_drop 17 cs.toList, e4, e6]
end
end Go.Proofs.YtgmddhljgfbibaaDoor
/- The law SegEncodes, walked. -/
namespace Go.Proofs.YtgmddhljgfbibaaDoor
set_option linter.unusedVariables false
set_option linter.unusedSimpArgs false
open Go.RowKit
theorem eqByte_k2 {w : World} {B C : Option Addr} {k c d : Nat} {Z : List Nat} (hk : Z.length = k) (h1 : SL w 1 (.slice B k c) k (bytesV Z)) (h2 : SL w 1 (.slice C k d) k (bytesV Z)) :
    Calls Tryd.prog 9 #[.slice B k c, .slice C k d] w fun e w' => e = .returned (.bool true) ∧ w = w' := by
  subst hk
  exact eqByte_same _ _ Z w h1 h2
/-- what Encode hands back, in one form -/
theorem SegIs.any {r : Int × List Nat} {w w' : World} {e : Ending} (h : SegIs r w e w') : ∃ B k d, e = .returned (.tuple #[.slice B k d, .int .i64 r.1]) ∧ (if r.1 = 0 then r.2 else []).length = k ∧ SL w' 1 (.slice B k d) k (bytesV (if r.1 = 0 then r.2 else [])) ∧ Ext w w' := by
  obtain ⟨hx, h⟩ := h
  by_cases h0 : r.1 = 0
  · rw [if_pos h0] at h ⊢
    obtain ⟨B, k, d, rfl, h1, h2, -⟩ := h
    exact ⟨B, k, d, by rw [h0], h1, h2, hx⟩
  · rw [if_neg h0] at h ⊢
    exact ⟨none, 0, 0, h, rfl, SL.nil _ 1, hx⟩
theorem zeroTblL : (Value.agg (ints (List.replicate 16 0) ++ [Value.slice none 0 0]).toArray) = .agg (tblL (List.replicate 16 0) (.slice none 0 0)).toArray := rfl
set_option maxRecDepth 20000 in
theorem builtTbls (tl : List Value) (h : tl.length = 17) : Tryd.prog.built 34 [(0, .agg tl.toArray)] = some (tl ++ tblL (List.replicate 16 0) (.slice none 0 0)).toArray := by
  match tl, h with
  | [a0, a1, a2, a3, a4, a5, a6, a7, a8, a9, a10, a11, a12, a13, a14, a15, a16], _ =>
    show _ = _
    kernel_rfl
theorem checkZ_badS : checkZ (List.replicate 16 0) [1] = 4 := by decide
/-- both encoders answer alike -/
theorem segBoth (cs1 xs1 cs2 xs2 : List Int) (s1 s2 : Value) (l1 : cs1.length = 16) (l2 : cs2.length = 16) (A : Option Addr) (n c : Nat) (Z : List Int) (hZ : Z.length = n * 64) (m0 : Int) (w : World) (hm : w.cell? ⟨0, 0, none⟩ = some (.int .i64 m0))
    (hs1 : SL w 1 s1 xs1.length (ints xs1)) (hs2 : SL w 1 s2 xs2.length (ints xs2)) (hs : SL w 64 (.slice A n c) n (ints Z)) :
    ∃ r : Int × List Nat, (∀ W, Ext w W → Calls Tryd.prog 12 #[.agg (tblL cs1 s1 ++ tblL cs2 s2).toArray, .slice A n c] W (SegIs r W)) ∧ (∀ W, Ext w W → Calls Tryd.prog 13 #[.agg (tblL cs1 s1 ++ tblL cs2 s2).toArray, .slice A n c] W (SegIs r W)) := by
  have h1 := tblL_len cs1 s1 l1
  have h2 := tblL_len cs2 s2 l2
  have C1 : ∀ W, Ext w W → Calls Tryd.prog 48 #[.agg (tblL cs1 s1).toArray] W fun e W' => e = .returned (.int .i64 (checkZ cs1 xs1)) ∧ Ext W W' := fun W h => check_any cs1 xs1 s1 W l1 (hs1.ext h)
  have C2 : ∀ W, Ext w W → Calls Tryd.prog 48 #[.agg (tblL cs2 s2).toArray] W fun e W' => e = .returned (.int .i64 (checkZ cs2 xs2)) ∧ Ext W W' := fun W h => check_any cs2 xs2 s2 W l2 (hs2.ext h)
  have D1 : ∀ W, Ext w W → Calls Tryd.prog 56 #[.agg (tblL cs1 s1).toArray] W fun e W' => e = .returned (.int .i64 (checkZ cs1 xs1)) ∧ Ext W W' := fun W h => rcheck_any cs1 xs1 s1 W l1 (hs1.ext h)
  have D2 : ∀ W, Ext w W → Calls Tryd.prog 56 #[.agg (tblL cs2 s2).toArray] W fun e W' => e = .returned (.int .i64 (checkZ cs2 xs2)) ∧ Ext W W' := fun W h => rcheck_any cs2 xs2 s2 W l2 (hs2.ext h)
  have o1 := tblL_oneS cs1 s1 hs1
  have o2 := tblL_oneS cs2 s2 hs2
  by_cases hE : (if checkZ cs1 xs1 = 0 then checkZ cs2 xs2 else checkZ cs1 xs1) = 0
  · have z1 : checkZ cs1 xs1 = 0 := by
      by_cases h : checkZ cs1 xs1 = 0
      · exact h
      · rw [if_neg h] at hE; exact hE
    have z2 : checkZ cs2 xs2 = 0 := by rw [if_pos z1] at hE; exact hE
    refine ⟨segR (zipC (codesW cs1 16) xs1) (zipC (codesW cs2 16) xs2) n Z, fun W h => ?_, fun W h => ?_⟩
    · rw [z1] at C1
      rw [z2] at C2
      exact segEnc_good _ _ (fitT_of cs1 xs1 l1 z1) (fitT_of cs2 xs2 l2 z2) _ _ A n c Z hZ m0 W (hs.ext h) (cell_keep hm h) h1 h2 o1 o2 (fun W' h' => C1 W' (h.trans h')) (fun W' h' => C2 W' (h.trans h'))
        (fun W' h' => newCoder_any cs1 xs1 s1 W' l1 ((hs1.ext h).ext h') z1) (fun W' h' => newCoder_any cs2 xs2 s2 W' l2 ((hs2.ext h).ext h') z2)
    · exact rsegEnc_good cs1 xs1 cs2 xs2 s1 s2 A n c Z hZ W (hs.ext h) l1 l2 (hs1.ext h) (hs2.ext h) z1 z2
  · exact ⟨(_, []), fun W h => segEnc_bad _ _ _ _ _ W h1 h2 o1 o2 (fun W' h' => C1 W' (h.trans h')) (fun W' h' => C2 W' (h.trans h')) hE, fun W h => rsegEnc_bad _ _ _ _ _ W h1 h2 (fun W' h' => D1 W' (h.trans h')) (fun W' h' => D2 W' (h.trans h')) hE⟩
theorem badTbls (w : World) : Calls Tryd.prog 14 #[] w fun e w' => ∃ tl tt : Array Value, e = .returned (.agg tl) ∧ Hid (Tryd.prog.built 34 [(0, .agg tl)] = some tt) ∧ Hid (∀ W v, Ext w' W → Calls Tryd.prog 12 #[.agg tt, v] W (SegIs (4, []) W)) ∧ Ext w w' :=
  (bad_any w).mono fun e w' ⟨g, he, hs, hx⟩ => by
    refine ⟨(tblL (List.replicate 16 0) (.slice (some ⟨g, 0, none⟩) 1 1)).toArray, _, he, hid_ (builtTbls _ (tblL_len _ _ (by simp))), hid_ (fun W v hW => ?_), hx⟩
    have hc := fun W' (h' : Ext W W') => check_any (List.replicate 16 0) [1] (.slice (some ⟨g, 0, none⟩) 1 1) W' (by simp) ((hs.ext hW).ext h')
    rw [checkZ_badS] at hc
    have h := segEnc_bad (tblL (List.replicate 16 0) (.slice (some ⟨g, 0, none⟩) 1 1)) (tblL (List.replicate 16 0) (.slice none 0 0)) 4 _ v W (tblL_len _ _ (by simp)) (tblL_len _ _ (by simp)) (tblL_oneS _ _ hs) (tblL_oneS _ _ (SL.nil W 1)) hc
      (fun W' h' => check_any (List.replicate 16 0) [] (.slice none 0 0) W' (by simp) (SL.nil W' 1)) (by rw [if_neg (by decide)]; decide)
    rw [if_neg (by decide)] at h
    exact h
end Go.Proofs.YtgmddhljgfbibaaDoor
namespace Go.Proofs.YtgmddhljgfbibaaDoor.segEncodes
open Go.RowKit
attribute [local irreducible] bytesV
set_option maxRecDepth 20000 in
set_option maxHeartbeats 2000000 in
theorem walk (cs1 xs1 : List Int) (s1 : Value) (cs2 xs2 : List Int) (s2 : Value) (l1 : cs1.length = 16) (l2 : cs2.length = 16) (v : Value) (Z : List Int) (hh : Z.length = Z.length / 64 * 64 ∧ ∀ z ∈ Z, inI64 z) (m0 : Int) (w : World) (hm : w.cell? ⟨0, 0, none⟩ = some (.int .i64 m0))
    (hs1 : SL w 1 s1 xs1.length (ints xs1)) (hs2 : SL w 1 s2 xs2.length (ints xs2)) (hs : SL w 64 v (Z.length / 64) (ints Z)) :
    Calls Tryd.prog 4 #[.agg (tblL cs1 s1 ++ tblL cs2 s2).toArray, v] w fun e w' => e = .returned (.bool true) ∧ Ext w w' := by
  obtain ⟨hZ, -⟩ := hh
  obtain ⟨n, hn⟩ : ∃ n, Z.length / 64 = n := ⟨_, rfl⟩
  rw [hn] at hs hZ
  have hs' := hs
  obtain ⟨A, c, rfl, -, -, -, -⟩ := hs'
  obtain ⟨r, K1, K2⟩ := segBoth cs1 xs1 cs2 xs2 s1 s2 l1 l2 A n c Z hZ m0 w hm hs1 hs2 hs
  have H1 := hid_ K1
  have H2 := hid_ K2
  have hsz := hid_ (tblsWhole (tblL_len cs1 s1 l1) (tblL_len cs2 s2 l2))
  generalize (tblL cs1 s1 ++ tblL cs2 s2).toArray = tt at *
  have HB := hid_ (fun W => badTbls W)
  obtain ⟨X, hX⟩ : ∃ X, X = if r.1 = 0 then r.2 else [] := ⟨_, rfl⟩
  have HA : Hid (∀ W e W', SegIs r W e W' → ∃ B k d, e = .returned (.tuple #[.slice B k d, .int .i64 r.1]) ∧ X.length = k ∧ SL W' 1 (.slice B k d) k (bytesV X) ∧ Ext W W') := hid_ (fun W e W' h => by rw [hX]; exact h.any)
  have HN : Hid (∀ W e W', SegIs (4, []) W e W' → e = .returned (.tuple #[.slice none 0 0, .int .i64 4]) ∧ Ext W W') := hid_ (fun W e W' h => by
    obtain ⟨hx, h⟩ := h
    rw [if_neg (by decide)] at h
    exact ⟨h, hx⟩)
  obtain ⟨x, q⟩ := r
  dsimp only at HA
  have e1 : (x == x) = true := by simp
  clear K1 K2 hs hs1 hs2 hm hn hZ hX l1 l2
  go_enter Tryd.func4, Tryd.ntmps4
  go_wp2_with (first
    | (show wpList _ _ _ (⟨some 2, _, _, _, _, _⟩ :: _) _ _; refine wpList_box_abs rfl 34 (.tmp 0) rfl tt rfl ?_; intro w1 g hb1 hx1 hg1)
    | (show wpList _ _ _ (⟨some 12, _, _, _, _, _⟩ :: _) _ _; refine wpList_load_blk rfl 34 (.tmp 2) rfl g rfl hb1 _ Tryd.underlying34 rfl 34 sizeTbls hsz.out ?_)
    | (go_at_call 12; (with_reducible refine (H1.out _ hx1).mono ?_); intro e w2 h2; obtain ⟨B2, k2, d2, rfl, hk2, hs2, hx2⟩ := HA.out _ _ _ h2; have hx2' := hx1.trans hx2)
    | (show wpList _ _ _ (⟨some 18, _, _, _, _, _⟩ :: _) _ _; refine wpList_load_blk rfl 34 (.tmp 2) rfl g rfl (hb1.ext hx2) _ Tryd.underlying34 rfl 34 sizeTbls hsz.out ?_)
    | (go_at_call 13; (with_reducible refine (H2.out _ hx2').mono ?_); intro e w3 h3; obtain ⟨B3, k3, d3, rfl, hk3, hs3, hx3⟩ := HA.out _ _ _ h3; have hx3' := hx2'.trans hx3; obtain rfl : k2 = k3 := by rw [← hk2, hk3])
    | (go_at_call 14; (with_reducible refine (HB.out _).mono ?_); rintro e w4 ⟨tl, tt2, rfl, HBL, hE4, hx4⟩)
    | (show wpList _ _ _ (⟨some 25, _, _, _, _, _⟩ :: _) _ _; refine wl_run rfl _ (ex_build1 rfl rfl HBL.out) ?_)
    | (go_at_call 12; (with_reducible refine (hE4.out _ _ (Ext.refl _)).mono ?_); intro e w5 h5; obtain ⟨rfl, hx5⟩ := HN.out _ _ _ h5)
    | (go_at_call 9; (with_reducible refine (eqByte_k2 hk2 (((hs2.ext hx3).ext hx4).ext hx5) ((hs3.ext hx4).ext hx5)).mono ?_); rintro e w7 ⟨rfl, rfl⟩))
  go_ret
  exact ⟨rfl, (hx3'.trans hx4).trans hx5⟩
end Go.Proofs.YtgmddhljgfbibaaDoor.segEncodes
namespace Go.Proofs.YtgmddhljgfbibaaDoor
set_option linter.unusedVariables false
set_option linter.unusedSimpArgs false
open Go.RowKit Go.ChangeShapes Go.WideShapes Go.ChangeAt
theorem own : ownKnob Tryd.prog.godebug = none := by kernel_rfl
theorem laidOut : laidOutB Tryd.prog = true := by kernel_rfl
section
variable {H : Type} {enc : TypeId × Value → H} {P : Program}
theorem below_trodAll (hl : laidOutB P = true) {W W' : World} (hb : Below W.heap.size W W') : ∀ {ts : List TypeId} {vs : List Value} {ds : List (DataW H)} {ps : List MemPlace},
    (∀ t ∈ ts, P.readableRec t = true ∧ t < P.types.size) → DataW.TrodAll enc P W 0 (fun _ => true) true ts vs ds ps → (∀ x ∈ ps, x.block < W.heap.size) →
    DataW.TrodAll enc P W' 0 (fun b => decide (b < W.heap.size)) true ts vs ds ps
  | [], _, _, _, _, h, _ => by
    obtain ⟨rfl, rfl, rfl⟩ := trodAll_nil h
    exact trodAll_mk0
  | t :: ts, vs, ds, ps, hr, h, hlt => by
    obtain ⟨v, vs1, d, ds1, a, b, rfl, rfl, rfl, h1, h2⟩ := trodAll_cons h
    exact ⟨a, b, Below.trod hl (hr t (by simp)).1 (hr t (by simp)).2 h1 hb (fun x hx => hlt x (by simp [hx])),
      below_trodAll hl hb (fun t ht => hr t (by simp [ht])) h2 (fun x hx => hlt x (by simp [hx])), rfl⟩

/-- a law's row is met: true, and new blocks alone -/
theorem law_post {f : Func} {s : ChangeSpec} {W W' : World} {args : Array Value} {ds gs : List (DataW H)} {before : List MemPlace}
    (hl : laidOutB P = true) (tb : TypeId) (htb : P.underlying tb = some .bool) (hft : f.resultTypes = #[tb]) (hvars : s.vars = [])
    (hr : ∀ t ∈ f.params.toList, P.readableRec t = true ∧ t < P.types.size)
    (hW : DataW.Whole enc P f.params.toList s.vars false W args.toList ds gs before)
    (hfn : s.fn H (ds ++ gs) = { results := [.lit (.bool true)], args := ds })
    (hb : Ext W W') : s.post enc P f false true false false W args (.bool true) W' := by
  have hlt : ∀ p ∈ before, p.block < W.heap.size := fun p hp => by simpa using hW.lt p hp
  have hW' := hW
  obtain ⟨p, q, hA, hV, rfl, hfz, hnd⟩ := hW
  rw [hvars] at hV
  obtain ⟨rfl, rfl⟩ := trodVars_none hV
  simp only [List.append_nil] at hlt hW'
  refine ⟨ds, [], p, [], p, [], hW', ?_, ?_, ?_, ?_, fun h => by cases h⟩
  · rw [hft, hfn]
    exact trodAll_cons_mk (shut_bool htb _) trodAll_mk0
  · rw [hfn]
    exact below_trodAll hl hb hr hA hlt
  · rw [hfn, hvars]
    rfl
  · exact World.keptBut_mono (fun p hp => ⟨hp, Or.inr (Or.inl hp)⟩) (hb.frame (· ∈ p))
end
end Go.Proofs.YtgmddhljgfbibaaDoor
/- The world of the witness: the listed tables laid. What a shaped world's MaxLen holds. -/
namespace Go.Proofs.YtgmddhljgfbibaaDoor
set_option linter.unusedVariables false
set_option linter.unusedSimpArgs false
open Go.ChangeShapes Go.WideShapes Go.ChangeAt Go.RowKit
theorem maxLen_cell {W : World} (h : W.ShapedOpen Tryd.prog) : ∃ m, W.cell? ⟨0, 0, none⟩ = some (.int .i64 m) :=
  Go.Proofs.cell_of_shapedOpen_int (zero := #[.int .i64 0]) (t := 3) h (of_decide_eq_true (by kernel_rfl)) (by kernel_rfl) rfl (by kernel_rfl) (by kernel_rfl) Tryd.underlying3
def layCells (cs : Array Value) : Obj → Obj
  | .cells _ t frozen => .cells cs t frozen
  | o => o
/-- the settled world, the two tables holding what their initialisers lay -/
noncomputable def laidWorld (os : Os) : World :=
  { World.holding Tryd.prog os ⟨#[], #[], []⟩ with
    heap := ((World.holding Tryd.prog os ⟨#[], #[], []⟩).heap.modify 1 (layCells (Go.Pinned.utf8FirstZ.map fun n : Nat => Value.int .u8 n).toArray)).modify 2
      (layCells (([128, 191, 160, 191, 128, 159, 144, 191, 128, 143, 0, 0, 0, 0, 0, 0, 0, 0, 0, 0, 0, 0, 0, 0, 0, 0, 0, 0, 0, 0, 0, 0] : List Nat).map fun n : Nat => Value.int .u8 n).toArray) }
end Go.Proofs.YtgmddhljgfbibaaDoor
