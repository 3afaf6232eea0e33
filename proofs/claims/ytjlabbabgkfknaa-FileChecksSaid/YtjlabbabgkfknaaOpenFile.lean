/- Opening a parameter that is a file. -/
import Derived.Test.YtjlabbabgkfknaaOpenSlices
import Derived.Test.YtjlabbabgkfknaaFile
namespace Go.Proofs.Ytjlabbabgkfknaa
set_option linter.unusedVariables false
set_option linter.unusedSimpArgs false
open Go.RowKit Go.ChangeShapes Go.WideShapes Go.ChangeAt
section
variable {H : Type} {enc : TypeId × Value → H} {w : World} {base : Nat} {spare : Nat → Bool} {held : Bool}
theorem trod_struct7 {P : Program} {t : TypeId} {f0 f1 f2 f3 f4 f5 f6 : Field} {fuel : Nat} {cs : List Value} {x : DataW H × List MemPlace} (ht : P.underlying t = some (.struct #[f0, f1, f2, f3, f4, f5, f6])) (h : DataW.trod enc P w base spare held fuel t cs = some x) :
    ∃ y0 y1 y2 y3 y4 y5 y6 n, cs.length = P.cellsOf t ∧ DataW.trod enc P w base spare held n f0.type ((cs.drop f0.offset).take (P.cellsOf f0.type)) = some y0 ∧
      DataW.trod enc P w base spare held n f1.type ((cs.drop f1.offset).take (P.cellsOf f1.type)) = some y1 ∧ DataW.trod enc P w base spare held n f2.type ((cs.drop f2.offset).take (P.cellsOf f2.type)) = some y2 ∧
      DataW.trod enc P w base spare held n f3.type ((cs.drop f3.offset).take (P.cellsOf f3.type)) = some y3 ∧ DataW.trod enc P w base spare held n f4.type ((cs.drop f4.offset).take (P.cellsOf f4.type)) = some y4 ∧
      DataW.trod enc P w base spare held n f5.type ((cs.drop f5.offset).take (P.cellsOf f5.type)) = some y5 ∧ DataW.trod enc P w base spare held n f6.type ((cs.drop f6.offset).take (P.cellsOf f6.type)) = some y6 := by
  obtain ⟨xs, n, _, rfl, hl, hlen, hf⟩ := DataW.trod_struct ht h
  match xs, hlen with
  | [y0, y1, y2, y3, y4, y5, y6], _ => exact ⟨y0, y1, y2, y3, y4, y5, y6, n, hl, by simpa using hf 0 f0 rfl, by simpa using hf 1 f1 rfl, by simpa using hf 2 f2 rfl, by simpa using hf 3 f3 rfl, by simpa using hf 4 f4 rfl, by simpa using hf 5 f5 rfl, by simpa using hf 6 f6 rfl⟩
theorem cellsTbls : Try.prog.cellsOf 47 = 34 := by kernel_rfl
theorem cellsFile : Try.prog.cellsOf 50 = 103 := by kernel_rfl
theorem cellsBy : Try.prog.cellsOf 48 = 1 := by kernel_rfl
theorem open_tableX {fuel : Nat} {cs : List Value} {x : DataW H × List MemPlace} (hL : cs.length = 17) (hf : DataW.trod enc Try.prog w base spare held fuel 45 cs = some x) :
    ∃ (zs xs : List Int) (sl : Value), cs = tblL zs sl ∧ zs.length = 16 ∧ SL w 1 sl xs.length (ints xs) := by
  obtain ⟨y0, y1, n, -, hlen, h0, h1⟩ := trod_struct2 Try.underlying45 hf
  dsimp only at h0 h1
  obtain ⟨zs, hz, hc, hq⟩ := trod_ints_arr Try.underlying43 Try.underlying3 cellsInt cells16 h0
  obtain ⟨xs, sl, hs, hsl, hxq⟩ := open_intsX h1
  rw [cells16, List.drop_zero] at hc
  rw [cellsSl] at hs
  refine ⟨zs, xs, sl, ?_, hz, hsl⟩
  have e2 : cs.drop 16 = [sl] := by
    rw [← hs]
    rw [List.take_of_length_le (by rw [List.length_drop, hL]; omega)]
  unfold tblL
  rw [← hc, ← e2, List.take_append_drop]
theorem open_bytesX {fuel : Nat} {cs : List Value} {x : DataW H × List MemPlace} (hf : DataW.trod enc Try.prog w base spare held fuel 48 cs = some x) :
    ∃ (v : Value) (bs : List Nat), cs = [v] ∧ SL w 1 v bs.length (bytesV bs) := by
  rcases open_ints Try.underlying48 Try.underlying5 (by kernel_rfl) hf with ⟨rfl, -⟩ | ⟨a, len, cap, zs, rfl, -, hlc, hcm, hzl, -, hcell, hwf⟩
  · exact ⟨_, [], rfl, SL.nil w 1⟩
  · have hlen : len ≤ zs.length := by rw [hzl]; split <;> omega
    obtain ⟨bs, hbs, hlt⟩ := bytes_of (zs.take len) (fun n hn => hwf n (List.mem_of_mem_take hn))
    have hl : bs.length = len := by
      have := congrArg List.length hbs
      simp [bytesV] at this
      omega
    refine ⟨_, bs, rfl, ?_⟩
    rw [hl]
    refine ⟨some a, cap, rfl, hlc, by unfold maxLen at hcm; omega, by rw [bytesV_len, hl]; omega, fun h0 => ⟨a, rfl, ?_, fun j u hu => ?_⟩⟩
    · have := hcell 0 (by omega)
      have h2 := World.block_lt_of_cell? w _ this
      rwa [block_of_add] at h2
    · rw [← hbs, List.getElem?_map] at hu
      obtain ⟨z, hz, rfl⟩ := Option.map_eq_some_iff.1 hu
      have hj : j < len := by have := (List.getElem?_eq_some_iff.1 hz).1; simp at this; omega
      rw [List.getElem?_take_of_lt hj] at hz
      rw [hcell j (by omega)]
      simp [List.getD_eq_getElem?_getD, hz]
theorem one_at {cs : List Value} {i : Nat} {v : Value} (h : (cs.drop i).take 1 = [v]) : cs[i]? = some v := by
  have := congrArg (·[0]?) h
  simpa using this
theorem parts_of (cs : List Value) (hL : cs.length = 103) {a b c e f : Value} {q t1 t2 : List Value} (h0 : (cs.drop 0).take 1 = [a]) (h1 : (cs.drop 1).take 1 = [b]) (h2 : (cs.drop 2).take 1 = [c]) (h3 : (cs.drop 3).take 64 = q)
    (h4 : (cs.drop 67).take 17 = t1) (h5 : (cs.drop 84).take 17 = t2) (h6 : (cs.drop 101).take 1 = [e]) (h7 : (cs.drop 102).take 1 = [f]) : cs = [a, b, c] ++ q ++ t1 ++ t2 ++ [e, f] := by
  have k7 : cs.drop 102 = [f] := by rw [← h7, List.take_of_length_le (by rw [List.length_drop, hL]; omega)]
  have k6 : cs.drop 101 = [e, f] := by rw [← List.take_append_drop 1 (cs.drop 101), h6, List.drop_drop]; rw [k7]; rfl
  have k5 : cs.drop 84 = t2 ++ [e, f] := by rw [← List.take_append_drop 17 (cs.drop 84), h5, List.drop_drop]; rw [k6]
  have k4 : cs.drop 67 = t1 ++ (t2 ++ [e, f]) := by rw [← List.take_append_drop 17 (cs.drop 67), h4, List.drop_drop]; rw [k5]
  have k3 : cs.drop 3 = q ++ (t1 ++ (t2 ++ [e, f])) := by rw [← List.take_append_drop 64 (cs.drop 3), h3, List.drop_drop]; rw [k4]
  have k2 : cs.drop 2 = c :: (q ++ (t1 ++ (t2 ++ [e, f]))) := by rw [← List.take_append_drop 1 (cs.drop 2), h2, List.drop_drop]; rw [k3]; rfl
  have k1 : cs.drop 1 = b :: c :: (q ++ (t1 ++ (t2 ++ [e, f]))) := by rw [← List.take_append_drop 1 (cs.drop 1), h1, List.drop_drop]; rw [k2]; rfl
  rw [← List.take_append_drop 1 cs, k1, show cs.take 1 = [a] from h0]
  simp
set_option maxRecDepth 20000 in
theorem open_file {b0 : Nat} {r : Reach} {v : Value} {d : DataW H} {p : List MemPlace} (hv : Value.okWide Try.prog w r b0 50 v) (h : DataW.Trod enc Try.prog w base spare held 50 v d p) :
    ∃ (wd hi pt ev : Int) (qs cs1 xs1 : List Int) (s1 : Value) (cs2 xs2 : List Int) (s2 : Value) (bs : List Nat) (sd : Value), v = .agg (fileL wd hi pt qs (tblL cs1 s1) (tblL cs2 s2) ev sd).toArray ∧ qs.length = 64 ∧ cs1.length = 16 ∧ cs2.length = 16 ∧
      SL w 1 s1 xs1.length (ints xs1) ∧ SL w 1 s2 xs2.length (ints xs2) ∧ SL w 1 sd bs.length (bytesV bs) := by
  obtain ⟨cs, rfl, hsz⟩ := okWide_struct Try.underlying50 hv
  obtain ⟨fuel, hf⟩ := h
  obtain ⟨y0, y1, y2, y3, y4, y5, y6, n, hlen, h0, h1, h2, h3, h4, h5, h6⟩ := trod_struct7 Try.underlying50 hf
  have hL : cs.toList.length = 103 := by rw [show cs.toList.length = cs.size by simp, hsz, cellsFile]
  have hcs : (Value.agg cs).cells.toList = cs.toList := rfl
  rw [hcs] at h0 h1 h2 h3 h4 h5 h6
  dsimp only at h0 h1 h2 h3 h4 h5 h6
  rw [cellsInt] at h0 h1 h2 h5
  rw [cells64] at h3
  rw [cellsTbls] at h4
  rw [cellsBy] at h6
  obtain ⟨wd, e0, -⟩ := trod_int_cell Try.underlying3 h0
  obtain ⟨hi, e1, -⟩ := trod_int_cell Try.underlying3 h1
  obtain ⟨pt, e2, -⟩ := trod_int_cell Try.underlying3 h2
  obtain ⟨ev, e5, -⟩ := trod_int_cell Try.underlying3 h5
  obtain ⟨qs, hq, e3, -⟩ := trod_ints_arr Try.underlying31 Try.underlying3 cellsInt cells64 h3
  obtain ⟨z0, z1, m, -, hlen4, g0, g1⟩ := trod_struct2 Try.underlying47 h4
  dsimp only at g0 g1
  rw [cellsTbl, List.drop_zero, List.take_take] at g0
  rw [cellsTbl, List.drop_take, List.take_take, List.drop_drop] at g1
  obtain ⟨cs1, xs1, s1, e4, hc1, hs1⟩ := open_tableX (by rw [List.length_take, List.length_drop, hL]; rfl) g0
  obtain ⟨cs2, xs2, s2, e6, hc2, hs2⟩ := open_tableX (by rw [List.length_take, List.length_drop, hL]; rfl) g1
  obtain ⟨sd, bs, e7, hsd⟩ := open_bytesX h6
  refine ⟨wd, hi, pt, ev, qs, cs1, xs1, s1, cs2, xs2, s2, bs, sd, ?_, hq, hc1, hc2, hs1, hs2, hsd⟩
  congr 1
  apply Array.ext'
  rw [parts_of cs.toList hL e0 e1 e2 e3 e4 e6 e5 e7]
  simp [fileL, ints]
end
end Go.Proofs.Ytjlabbabgkfknaa
