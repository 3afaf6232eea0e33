/- Contracts for the law BestMakes, part 5: what the functions that it reaches answer, for all arguments that the theorems name. -/
import Derived.Test.YtideigpabbhhkaaMBestMakes3
import Derived.Test.YtideigpabbhhkaaMBestMakes4
import Derived.Deep.Cut
import Derived.Test.YtideigpabbhhkaaMBestMakes1
/- slices.insertionSortCmpFunc at packs. Printed by wip/gen/mkpins.py. -/
namespace Go.Proofs.Ytideigpabbhhkaa
set_option linter.unusedVariables false
set_option linter.unusedSimpArgs false
open Go.RowKit
open SM
def pk0 : Pk := (0, .slice none 0 0)
abbrev pw : Pk → Int := Prod.fst
def OnesP (L : List Pk) : Prop := ∀ p ∈ L, p.2.oneCell' = true
theorem OnesP.perm {L M : List Pk} (h : OnesP L) (hp : M.Perm L) : OnesP M := fun p hq => h p (hp.subset hq)
theorem DS.ext {w w' : World} {gd : Nat} {L : List Pk} {tl : List Value} (h : DS w gd L tl) (hx : Ext w w') : DS w' gd L tl := Blk.ext h hx
theorem ex_ixPk {o : Oper} {a : Act} {x ix : Operand} (ho : o.op = .indexAddr 60 x ix) {g n c i : Nat} (hx : a.eval x = .slice (some ⟨g, 0, none⟩) n c) (hi : a.eval ix = .int .i64 (i : Int)) (h : i < n) (w : World) :
    (execOp a.eval o).run Try.prog w = .ok (.value (.pointer (some ⟨g, i * 2, none⟩))) w := by
  have := ex_ixSlG Try.underlying60 sizePk ho hx hi h w
  rwa [Nat.zero_add] at this
theorem lx_callV {P : Program} {md : Region.Mode} {ops : Array Oper} {R : World → World → Prop} {Q : Exit → Act → World → Prop} {rest : List Oper} {o : Oper} {k : Nat} {listed : Array Bool} {a : Act} {wc : World} (hw : Region.wanted o (yielded ops a.tmps) = true) (x : Operand) (xs : Array Operand) (ts : Array TypeId)
    (ho : o.op = .call { callee := .value x, args := xs, argTypes := ts }) {f : FuncId} {cap : Array Value} (hr : a.eval x = .func (.func f) #[] cap) (hm : Goes P f) (args : Array Value) (hx : xs.map a.eval ++ cap = args) (v : Value)
    (hc : ∀ w, R wc w → Calls P f args w fun e w' => e = .returned v ∧ R w w') (h : wpLx P md ops R Q rest (k + 1) (listed.setIfInBounds k true) (a.put o.dst v) wc) : wpLx P md ops R Q (o :: rest) k listed a wc := by
  refine lx_at hw v (fun w hR => ?_) h
  unfold Oper.quietAt
  rw [run_callv x xs ts ho hr hm args hx w]
  exact ⟨rfl, hc w hR⟩
theorem swp_eq (M : List Pk) (i j : Nat) (hi : i < M.length) (hj : j < M.length) : (M.set i M[j]).set j M[i] = swp pk0 M i j := by
  unfold swp
  rw [at_get pk0 M i hi, at_get pk0 M j hj]
theorem wA_get (M : List Pk) (i : Nat) (h : i < M.length) : wA pk0 pw M i = M[i].1 := by unfold wA; rw [at_get pk0 M i h]
theorem less_cmp (a b : Int) : decide (cmpZ a b < 0) = decide (a < b) := by
  rw [Bool.eq_iff_iff, decide_eq_true_eq, decide_eq_true_eq]
  unfold cmpZ
  split
  · omega
  · split <;> omega
/-- a sort of the places a .. b: what it leaves -/
def SortIs (gd : Nat) (L : List Pk) (tl : List Value) (a b : Nat) (w : World) (e : Ending) (w' : World) : Prop := e = .returned (.tuple #[]) ∧ ∃ M, DS w' gd M tl ∧ Seg pk0 L M a b ∧ Sorted pk0 pw M a b ∧ Upd (fun x => x = gd) w w'
set_option maxRecDepth 20000 in
set_option maxHeartbeats 16000000 in
theorem insSort_any (gd : Nat) (L : List Pk) (tl : List Value) (n c a b : Nat) (w : World) (hn : L.length = n) (hn2 : n ≤ 1000000) (hab : a ≤ b) (hbn : b ≤ n) (hone : OnesP L) (hD : DS w gd L tl) :
    Calls Try.prog 41 #[.slice (some ⟨gd, 0, none⟩) n c, .int .i64 (a : Int), .int .i64 (b : Int), .func (.func 28) #[] #[]] w (SortIs gd L tl a b w) := by
  have HN := hid_ hn
  have HONE := hid_ hone
  clear hn hone
  have hs0 : Sorted pk0 pw L a (a + 1) := fun x y h1 h2 h3 => by omega
  go_enter Try.func41, Try.ntmps41
  go_upto_region 1 with ((with_reducible show wpList _ _ _ (⟨some 11, _, _, _, _, _⟩ :: _) _ _); refine wl_run rfl (.int .i64 ((a + 1 : Nat) : Int)) (ex_addN (i := a) (d := 1) rfl rfl rfl (by omega)) ?_)
  go_loopw [8] (fun iv wr => ∃ (i : Nat) (M : List Pk), a + 1 ≤ i ∧ (i ≤ b ∨ i = a + 1) ∧ iv = .int .i64 (i : Int) ∧ DS wr gd M tl ∧ Seg pk0 L M a b ∧ Sorted pk0 pw M a i ∧ Upd (fun x => x = gd) w wr) (fun i _ => b + 1 - (intOf i).toNat)
  case atStart => exact ⟨a + 1, L, by omega, .inr rfl, rfl, hD, Seg.refl pk0 L a b, hs0, Upd.refl _ w⟩
  case round =>
    clear hD hs0
    obtain ⟨i, M, hai, hib, rfl, hD, hseg, hsor, hu⟩ := hrel
    by_cases hlt : i < b
    · have hins := Ins.start pk0 pw hsor
      go_upto_region 4 with ((with_reducible show wpList _ _ _ (⟨some 14, _, _, _, _, _⟩ :: _) _ _); refine wl_run rfl (.bool true) (ex_lss rfl rfl rfl (by simpa using hlt)) ?_)
      go_loopw [9] (fun jv wr => ∃ (j : Nat) (M : List Pk), a ≤ j ∧ j ≤ i ∧ jv = .int .i64 (j : Int) ∧ DS wr gd M tl ∧ Seg pk0 L M a b ∧ Ins pk0 pw M a j i ∧ Upd (fun x => x = gd) w wr) (fun j _ => (intOf j).toNat)
      case atStart => exact ⟨i, M, by omega, by omega, rfl, hD, hseg, hins, hu⟩
      case round =>
        clear hD hseg hsor hins hu
        obtain ⟨j, M, haj, hji, rfl, hD, hseg, hins, hu⟩ := hrel
        have hml : M.length = n := hseg.len.trans HN.out
        have hone := HONE.out.perm hseg.perm
        have hDd : DS wr.drew gd M tl := Blk.drew hD
        by_cases hja : a < j
        · by_cases hls : wA pk0 pw M j < wA pk0 pw M (j - 1)
          · have hB : decide (cmpZ (M[j]'(by omega)).1 (M[j - 1]'(by omega)).1 < 0) = true := by
              rw [less_cmp, ← wA_get M j (by omega), ← wA_get M (j - 1) (by omega)]
              simpa using hls
            go_wp2_with fail
            refine wp_region_lx later_ext (by kernel_rfl) (by kernel_rfl) ?_
            refine lx_run (by rfl) (.int .i64 (j : Int)) (ex_move rfl rfl) ?_
            simp only [Act.put, List.setIfInBounds_toArray, List.set_cons_succ, List.set_cons_zero]
            refine lx_run (by rfl) (.int .i64 (a : Int)) (ex_move rfl rfl) ?_
            simp only [Act.put, List.setIfInBounds_toArray, List.set_cons_succ, List.set_cons_zero]
            refine lx_run (by rfl) (.bool true) (ex_gtr rfl rfl rfl (by simp; omega)) ?_
            simp only [Act.put, List.setIfInBounds_toArray, List.set_cons_succ, List.set_cons_zero]
            refine lx_run (by rfl) (.bool true) (ex_move rfl rfl) ?_
            simp only [Act.put, List.setIfInBounds_toArray, List.set_cons_succ, List.set_cons_zero]
            refine lx_run (by rfl) (.func (.func 28) #[] #[]) (ex_move rfl rfl) ?_
            simp only [Act.put, List.setIfInBounds_toArray, List.set_cons_succ, List.set_cons_zero]
            refine lx_run (by rfl) (.slice (some ⟨gd, 0, none⟩) n c) (ex_move rfl rfl) ?_
            simp only [Act.put, List.setIfInBounds_toArray, List.set_cons_succ, List.set_cons_zero]
            refine lx_run (by rfl) (.int .i64 (j : Int)) (ex_move rfl rfl) ?_
            simp only [Act.put, List.setIfInBounds_toArray, List.set_cons_succ, List.set_cons_zero]
            refine lx_run (by rfl) (.pointer (some ⟨gd, j * 2, none⟩)) (ex_ixPk rfl rfl rfl (by omega)) ?_
            simp only [Act.put, List.setIfInBounds_toArray, List.set_cons_succ, List.set_cons_zero]
            refine lx_read (by rfl) (.agg (pkV M[j])) (fun W hW => ex_loadPk rfl (hDd.ext hW) (by omega) rfl) ?_
            simp only [Act.put, List.setIfInBounds_toArray, List.set_cons_succ, List.set_cons_zero]
            refine lx_run (by rfl) (.slice (some ⟨gd, 0, none⟩) n c) (ex_move rfl rfl) ?_
            simp only [Act.put, List.setIfInBounds_toArray, List.set_cons_succ, List.set_cons_zero]
            refine lx_run (by rfl) (.int .i64 (j : Int)) (ex_move rfl rfl) ?_
            simp only [Act.put, List.setIfInBounds_toArray, List.set_cons_succ, List.set_cons_zero]
            refine lx_run (by rfl) (.int .i64 ((j - 1 : Nat) : Int)) (ex_subN (i := j) (d := 1) rfl rfl rfl (by omega) (by omega)) ?_
            simp only [Act.put, List.setIfInBounds_toArray, List.set_cons_succ, List.set_cons_zero]
            refine lx_run (by rfl) (.pointer (some ⟨gd, (j - 1) * 2, none⟩)) (ex_ixPk rfl rfl rfl (by omega)) ?_
            simp only [Act.put, List.setIfInBounds_toArray, List.set_cons_succ, List.set_cons_zero]
            refine lx_read (by rfl) (.agg (pkV M[j - 1])) (fun W hW => ex_loadPk rfl (hDd.ext hW) (by omega) rfl) ?_
            simp only [Act.put, List.setIfInBounds_toArray, List.set_cons_succ, List.set_cons_zero]
            refine lx_callV (by rfl) _ _ _ rfl rfl goesBy #[.agg (pkV M[j]), .agg (pkV M[j - 1])] (by simp [Act.eval]) (.int .i64 (cmpZ M[j].1 M[j - 1].1)) (fun W h => byWeight_any _ _ W) ?_
            simp only [Act.put, List.setIfInBounds_toArray, List.set_cons_succ, List.set_cons_zero]
            refine lx_run (by rfl) (.bool true) (ex_lss rfl rfl rfl hB) ?_
            simp only [Act.put, List.setIfInBounds_toArray, List.set_cons_succ, List.set_cons_zero]
            refine lx_run (by rfl) (.bool true) (ex_pick rfl rfl rfl) ?_
            simp only [Act.put, List.setIfInBounds_toArray, List.set_cons_succ, List.set_cons_zero]
            refine lx_nil ?_
            intro w4 hx4
            have hDD : DS w4.drew gd M tl := Blk.drew (hDd.ext hx4)
            have hu4 : Upd (fun x => x = gd) w w4.drew := (hu.drew.trans (Upd.of_ext (S := fun _ => False) hx4) (fun _ h => h.elim)).drew
            go_wp2_with fail
            refine wp_region_of (fun k => k == 9 || k == 13) (fun W => DS W gd M tl) (by kernel_rfl) ?_
            refine og_pure (k := 0) (by kernel_rfl) rfl (by rfl) (.slice (some ⟨gd, 0, none⟩) n c) (ex_move rfl rfl) ?_
            simp only [Act.put, List.setIfInBounds_toArray, List.set_cons_succ, List.set_cons_zero]
            refine og_pure (k := 1) (by kernel_rfl) rfl (by rfl) (.int .i64 (j : Int)) (ex_move rfl rfl) ?_
            simp only [Act.put, List.setIfInBounds_toArray, List.set_cons_succ, List.set_cons_zero]
            refine og_pure (k := 2) (by kernel_rfl) rfl (by rfl) (.slice (some ⟨gd, 0, none⟩) n c) (ex_move rfl rfl) ?_
            simp only [Act.put, List.setIfInBounds_toArray, List.set_cons_succ, List.set_cons_zero]
            refine og_pure (k := 3) (by kernel_rfl) rfl (by rfl) (.int .i64 (j : Int)) (ex_move rfl rfl) ?_
            simp only [Act.put, List.setIfInBounds_toArray, List.set_cons_succ, List.set_cons_zero]
            refine og_pure (k := 4) (by kernel_rfl) rfl (by rfl) (.int .i64 ((j - 1 : Nat) : Int)) (ex_subN (i := j) (d := 1) rfl rfl rfl (by omega) (by omega)) ?_
            simp only [Act.put, List.setIfInBounds_toArray, List.set_cons_succ, List.set_cons_zero]
            refine og_pure (k := 5) (by kernel_rfl) rfl (by rfl) (.slice (some ⟨gd, 0, none⟩) n c) (ex_move rfl rfl) ?_
            simp only [Act.put, List.setIfInBounds_toArray, List.set_cons_succ, List.set_cons_zero]
            refine og_pure (k := 6) (by kernel_rfl) rfl (by rfl) (.int .i64 (j : Int)) (ex_move rfl rfl) ?_
            simp only [Act.put, List.setIfInBounds_toArray, List.set_cons_succ, List.set_cons_zero]
            refine og_pure (k := 7) (by kernel_rfl) rfl (by rfl) (.int .i64 ((j - 1 : Nat) : Int)) (ex_subN (i := j) (d := 1) rfl rfl rfl (by omega) (by omega)) ?_
            simp only [Act.put, List.setIfInBounds_toArray, List.set_cons_succ, List.set_cons_zero]
            refine og_pure (k := 8) (by kernel_rfl) rfl (by rfl) (.pointer (some ⟨gd, (j - 1) * 2, none⟩)) (ex_ixPk rfl rfl rfl (by omega)) ?_
            simp only [Act.put, List.setIfInBounds_toArray, List.set_cons_succ, List.set_cons_zero]
            refine og_pure (k := 10) (by kernel_rfl) rfl (by rfl) (.slice (some ⟨gd, 0, none⟩) n c) (ex_move rfl rfl) ?_
            simp only [Act.put, List.setIfInBounds_toArray, List.set_cons_succ, List.set_cons_zero]
            refine og_pure (k := 11) (by kernel_rfl) rfl (by rfl) (.int .i64 (j : Int)) (ex_move rfl rfl) ?_
            simp only [Act.put, List.setIfInBounds_toArray, List.set_cons_succ, List.set_cons_zero]
            refine og_pure (k := 12) (by kernel_rfl) rfl (by rfl) (.pointer (some ⟨gd, j * 2, none⟩)) (ex_ixPk rfl rfl rfl (by omega)) ?_
            simp only [Act.put, List.setIfInBounds_toArray, List.set_cons_succ, List.set_cons_zero]
            refine og_fix (k := 9) (by kernel_rfl) rfl (by rfl) (.agg (pkV M[j - 1])) (fun W hW => ex_loadPk rfl hW (by omega) rfl) hDD ?_
            simp only [Act.put, List.setIfInBounds_toArray, List.set_cons_succ, List.set_cons_zero]
            refine og_fix (k := 13) (by kernel_rfl) rfl (by rfl) (.agg (pkV M[j])) (fun W hW => ex_loadPk rfl hW (by omega) rfl) hDD ?_
            simp only [Act.put, List.setIfInBounds_toArray, List.set_cons_succ, List.set_cons_zero]
            refine og_pure (k := 14) (by kernel_rfl) rfl (by rfl) (.pointer (some ⟨gd, j * 2, none⟩)) (ex_ixPk rfl rfl rfl (by omega)) ?_
            simp only [Act.put, List.setIfInBounds_toArray, List.set_cons_succ, List.set_cons_zero]
            refine of_loud (k := 15) (by kernel_rfl) rfl ?_
            refine wl_storePk rfl _ _ rfl gd M tl hDD j (by omega) M[j - 1] (hone _ (List.getElem_mem _)) rfl rfl ?_
            intro w5 hD5 hu5
            refine oi_end ⟨fun h => (by cases h), ?_⟩
            simp only [Act.put, List.setIfInBounds_toArray, List.set_cons_succ, List.set_cons_zero]
            refine og_pure (k := 16) (by kernel_rfl) rfl (by rfl) (.pointer (some ⟨gd, (j - 1) * 2, none⟩)) (ex_ixPk rfl rfl rfl (by omega)) ?_
            simp only [Act.put, List.setIfInBounds_toArray, List.set_cons_succ, List.set_cons_zero]
            refine of_loud (k := 17) (by kernel_rfl) rfl ?_
            refine wl_storePk rfl _ _ rfl gd (M.set j M[j - 1]) tl hD5 (j - 1) (by rw [List.length_set]; omega) M[j] (hone _ (List.getElem_mem _)) rfl rfl ?_
            intro w6 hD6 hu6
            refine oi_end ⟨fun h => (by cases h), ?_⟩
            simp only [Act.put, List.setIfInBounds_toArray, List.set_cons_succ, List.set_cons_zero]
            refine of_done (by kernel_rfl) ?_
            have hD7 : DS w6 gd (swp pk0 M j (j - 1)) tl := by rw [← swp_eq M j (j - 1) (by omega) (by omega)]; exact hD6
            have hu7 := (hu4.trans hu5 (fun x h => .inl h)).trans hu6 (fun x h => .inl h)
            go_wp2_with ((with_reducible show wpList _ _ _ (⟨some 36, _, _, _, _, _⟩ :: _) _ _); refine wl_run rfl (.int .i64 ((j - 1 : Nat) : Int)) (ex_subN (i := j) (d := 1) rfl rfl rfl (by omega) (by omega)) ?_)
            go_roundw
            case rel => exact ⟨j - 1, swp pk0 M j (j - 1), by omega, by omega, by go_num, hD7, hseg.trans pk0 (Seg.swp pk0 (by omega) (by omega) (by omega) (by omega) (by omega) (by omega)), hins.step pk0 pw hja hji (by omega) hls, hu7⟩
            case measure => simp [intOf]; omega
          · have hB : decide (cmpZ (M[j]'(by omega)).1 (M[j - 1]'(by omega)).1 < 0) = false := by
              rw [less_cmp, ← wA_get M j (by omega), ← wA_get M (j - 1) (by omega)]
              simpa using hls
            have hfin := hins.stop pk0 pw (.inr (by omega)) haj
            go_wp2_with fail
            refine wp_region_lx later_ext (by kernel_rfl) (by kernel_rfl) ?_
            refine lx_run (by rfl) (.int .i64 (j : Int)) (ex_move rfl rfl) ?_
            simp only [Act.put, List.setIfInBounds_toArray, List.set_cons_succ, List.set_cons_zero]
            refine lx_run (by rfl) (.int .i64 (a : Int)) (ex_move rfl rfl) ?_
            simp only [Act.put, List.setIfInBounds_toArray, List.set_cons_succ, List.set_cons_zero]
            refine lx_run (by rfl) (.bool true) (ex_gtr rfl rfl rfl (by simp; omega)) ?_
            simp only [Act.put, List.setIfInBounds_toArray, List.set_cons_succ, List.set_cons_zero]
            refine lx_run (by rfl) (.bool true) (ex_move rfl rfl) ?_
            simp only [Act.put, List.setIfInBounds_toArray, List.set_cons_succ, List.set_cons_zero]
            refine lx_run (by rfl) (.func (.func 28) #[] #[]) (ex_move rfl rfl) ?_
            simp only [Act.put, List.setIfInBounds_toArray, List.set_cons_succ, List.set_cons_zero]
            refine lx_run (by rfl) (.slice (some ⟨gd, 0, none⟩) n c) (ex_move rfl rfl) ?_
            simp only [Act.put, List.setIfInBounds_toArray, List.set_cons_succ, List.set_cons_zero]
            refine lx_run (by rfl) (.int .i64 (j : Int)) (ex_move rfl rfl) ?_
            simp only [Act.put, List.setIfInBounds_toArray, List.set_cons_succ, List.set_cons_zero]
            refine lx_run (by rfl) (.pointer (some ⟨gd, j * 2, none⟩)) (ex_ixPk rfl rfl rfl (by omega)) ?_
            simp only [Act.put, List.setIfInBounds_toArray, List.set_cons_succ, List.set_cons_zero]
            refine lx_read (by rfl) (.agg (pkV M[j])) (fun W hW => ex_loadPk rfl (hDd.ext hW) (by omega) rfl) ?_
            simp only [Act.put, List.setIfInBounds_toArray, List.set_cons_succ, List.set_cons_zero]
            refine lx_run (by rfl) (.slice (some ⟨gd, 0, none⟩) n c) (ex_move rfl rfl) ?_
            simp only [Act.put, List.setIfInBounds_toArray, List.set_cons_succ, List.set_cons_zero]
            refine lx_run (by rfl) (.int .i64 (j : Int)) (ex_move rfl rfl) ?_
            simp only [Act.put, List.setIfInBounds_toArray, List.set_cons_succ, List.set_cons_zero]
            refine lx_run (by rfl) (.int .i64 ((j - 1 : Nat) : Int)) (ex_subN (i := j) (d := 1) rfl rfl rfl (by omega) (by omega)) ?_
            simp only [Act.put, List.setIfInBounds_toArray, List.set_cons_succ, List.set_cons_zero]
            refine lx_run (by rfl) (.pointer (some ⟨gd, (j - 1) * 2, none⟩)) (ex_ixPk rfl rfl rfl (by omega)) ?_
            simp only [Act.put, List.setIfInBounds_toArray, List.set_cons_succ, List.set_cons_zero]
            refine lx_read (by rfl) (.agg (pkV M[j - 1])) (fun W hW => ex_loadPk rfl (hDd.ext hW) (by omega) rfl) ?_
            simp only [Act.put, List.setIfInBounds_toArray, List.set_cons_succ, List.set_cons_zero]
            refine lx_callV (by rfl) _ _ _ rfl rfl goesBy #[.agg (pkV M[j]), .agg (pkV M[j - 1])] (by simp [Act.eval]) (.int .i64 (cmpZ M[j].1 M[j - 1].1)) (fun W h => byWeight_any _ _ W) ?_
            simp only [Act.put, List.setIfInBounds_toArray, List.set_cons_succ, List.set_cons_zero]
            refine lx_run (by rfl) (.bool false) (ex_lss rfl rfl rfl hB) ?_
            simp only [Act.put, List.setIfInBounds_toArray, List.set_cons_succ, List.set_cons_zero]
            refine lx_run (by rfl) (.bool false) (ex_pick rfl rfl rfl) ?_
            simp only [Act.put, List.setIfInBounds_toArray, List.set_cons_succ, List.set_cons_zero]
            refine lx_nil ?_
            intro w4 hx4
            have hD4 := hDd.ext hx4
            have hu4 : Upd (fun x => x = gd) w w4 := hu.drew.trans (Upd.of_ext (S := fun _ => False) hx4) (fun _ h => h.elim)
            go_wp2_with ((with_reducible show wpList _ _ _ (⟨some 16, _, _, _, _, _⟩ :: _) _ _); refine wl_run rfl (.int .i64 ((i + 1 : Nat) : Int)) (ex_addN (i := i) (d := 1) rfl rfl rfl (by omega)) ?_)
            go_roundw
            case rel => exact ⟨i + 1, M, by omega, .inl (by omega), by go_num, hD4, hseg, hfin, hu4⟩
            case measure => simp [intOf]; omega
        · obtain rfl : a = j := by omega
          have hfin := hins.stop pk0 pw (.inl rfl) haj
          go_wp2_with fail
          refine wp_region_lx later_ext (by kernel_rfl) (by kernel_rfl) ?_
          refine lx_run (by rfl) (.int .i64 (a : Int)) (ex_move rfl rfl) ?_
          simp only [Act.put, List.setIfInBounds_toArray, List.set_cons_succ, List.set_cons_zero]
          refine lx_run (by rfl) (.int .i64 (a : Int)) (ex_move rfl rfl) ?_
          simp only [Act.put, List.setIfInBounds_toArray, List.set_cons_succ, List.set_cons_zero]
          refine lx_run (by rfl) (.bool false) (ex_gtr rfl rfl rfl (by simp)) ?_
          simp only [Act.put, List.setIfInBounds_toArray, List.set_cons_succ, List.set_cons_zero]
          refine lx_run (by rfl) (.bool false) (ex_move rfl rfl) ?_
          simp only [Act.put, List.setIfInBounds_toArray, List.set_cons_succ, List.set_cons_zero]
          refine lx_skip (by rfl) ?_
          simp only [Act.put, List.setIfInBounds_toArray, List.set_cons_succ, List.set_cons_zero]
          refine lx_skip (by rfl) ?_
          simp only [Act.put, List.setIfInBounds_toArray, List.set_cons_succ, List.set_cons_zero]
          refine lx_skip (by rfl) ?_
          simp only [Act.put, List.setIfInBounds_toArray, List.set_cons_succ, List.set_cons_zero]
          refine lx_skip (by rfl) ?_
          simp only [Act.put, List.setIfInBounds_toArray, List.set_cons_succ, List.set_cons_zero]
          refine lx_skip (by rfl) ?_
          simp only [Act.put, List.setIfInBounds_toArray, List.set_cons_succ, List.set_cons_zero]
          refine lx_skip (by rfl) ?_
          simp only [Act.put, List.setIfInBounds_toArray, List.set_cons_succ, List.set_cons_zero]
          refine lx_skip (by rfl) ?_
          simp only [Act.put, List.setIfInBounds_toArray, List.set_cons_succ, List.set_cons_zero]
          refine lx_skip (by rfl) ?_
          simp only [Act.put, List.setIfInBounds_toArray, List.set_cons_succ, List.set_cons_zero]
          refine lx_skip (by rfl) ?_
          simp only [Act.put, List.setIfInBounds_toArray, List.set_cons_succ, List.set_cons_zero]
          refine lx_skip (by rfl) ?_
          simp only [Act.put, List.setIfInBounds_toArray, List.set_cons_succ, List.set_cons_zero]
          refine lx_skip (by rfl) ?_
          simp only [Act.put, List.setIfInBounds_toArray, List.set_cons_succ, List.set_cons_zero]
          refine lx_skip (by rfl) ?_
          simp only [Act.put, List.setIfInBounds_toArray, List.set_cons_succ, List.set_cons_zero]
          refine lx_run (by rfl) (.bool false) (ex_pick rfl rfl rfl) ?_
          simp only [Act.put, List.setIfInBounds_toArray, List.set_cons_succ, List.set_cons_zero]
          refine lx_nil ?_
          intro w4 hx4
          have hD4 := hDd.ext hx4
          have hu4 : Upd (fun x => x = gd) w w4 := hu.drew.trans (Upd.of_ext (S := fun _ => False) hx4) (fun _ h => h.elim)
          go_wp2_with ((with_reducible show wpList _ _ _ (⟨some 16, _, _, _, _, _⟩ :: _) _ _); refine wl_run rfl (.int .i64 ((i + 1 : Nat) : Int)) (ex_addN (i := i) (d := 1) rfl rfl rfl (by omega)) ?_)
          go_roundw
          case rel => exact ⟨i + 1, M, by omega, .inl (by omega), by go_num, hD4, hseg, hfin, hu4⟩
          case measure => simp [intOf]; omega
    · go_wp2_with ((with_reducible show wpList _ _ _ (⟨some 14, _, _, _, _, _⟩ :: _) _ _); refine wl_run rfl (.bool false) (ex_lss rfl rfl rfl (by simpa using hlt)) ?_)
      go_end0
      exact ⟨rfl, M, hD, hseg, hsor.sub pk0 pw (Nat.le_refl _) (by omega), hu⟩
end Go.Proofs.Ytideigpabbhhkaa
/- Loads of bytes and of slices of bytes. -/
namespace Go.Proofs.Ytideigpabbhhkaa
set_option linter.unusedVariables false
set_option linter.unusedSimpArgs false
open Go.RowKit
section
variable {o : Oper} {a : Act}
theorem run_loadU (W : World) (p : Addr) (z : Int) (h : W.cell? p = some (.int .u8 z)) : (Instr.loadAt 5 (.pointer (some p))).run Try.prog W = .ok (.int .u8 z) W := by
  go_simp
theorem ex_loadU {x : Operand} (ho : o.op = .load 5 x) {p : Addr} (hx : a.eval x = .pointer (some p)) {z : Int} {w : World} (h : w.cell? p = some (.int .u8 z)) : (execOp a.eval o).run Try.prog w = .ok (.value (.int .u8 z)) w := by
  simp [execOp, ho, hx, run_loadU w p z h]
theorem run_conv8 (y : Nat) (h : y < 256) (W : World) : (convert 5 3 (.int .u8 (y : Int))).run Try.prog W = .ok (.int .i64 (y : Int)) W := by
  have e : IntKind.i64.wrap (y : Int) = (y : Int) := IntWalk.i64_in _ (by omega)
  go_simp
theorem ex_conv {P : Program} {x : Operand} {t u : TypeId} (ho : o.op = .convert t u x) {v v' : Value} (hx : a.eval x = v) (hr : ∀ w, (convert t u v).run P w = .ok v' w) (w : World) : (execOp a.eval o).run P w = .ok (.value v') w := by
  simp [execOp, ho, hx, hr]
end
theorem SL.upd0 {S : Nat → Prop} {w w' : World} {size n c : Nat} {A : Option Addr} {xs : List Value} (h : SL w size (.slice A n c) n xs) (hu : Upd S w w') (hS : 0 < n → ∀ ad, A = some ad → ¬ S ad.block) : SL w' size (.slice A n c) n xs := by
  by_cases h0 : 0 < n
  · exact h.upd hu (hS h0)
  · obtain ⟨A', c', e1, h1, h2, h3, h4⟩ := h
    exact ⟨A', c', e1, h1, h2, h3, fun hn => absurd hn h0⟩
theorem own_upd {S : Nat → Prop} {w w' : World} {base : Nat} {e : TypeId} {size n : Nat} {v : Value} {xs : List Value} (h : w.ownsRow base e size v n xs) (hu : Upd S w w') (hS : ∀ x, S x → x < base) : w'.ownsRow base e size v n xs := by
  obtain ⟨hl, hh⟩ := h
  refine ⟨hl, ?_⟩
  rcases hh with ⟨rfl, rfl⟩ | ⟨g, cap, cur, rfl, h1, hg, h2⟩
  · exact .inl ⟨rfl, rfl⟩
  · exact .inr ⟨g, cap, cur, rfl, h1, (hu.block g (Blk.lt (w := w) (t := e) (cs := cur) hg) (fun hx => by have := hS g hx; omega)).trans hg, h2⟩
end Go.Proofs.Ytideigpabbhhkaa
/- The middle of two places: int(uint(i+j) >> 1). -/

namespace Go.Proofs.Ytideigpabbhhkaa
set_option linter.unusedVariables false
set_option linter.unusedSimpArgs false
open Go.RowKit
theorem u64_in (n : Nat) (h : n < 1099511627776) : IntKind.u64.wrap (n : Int) = (n : Int) := by
  simp [IntKind.wrap, IntKind.bits, IntKind.signed]
  omega
theorem run_toU (n : Nat) (h : n < 1099511627776) (W : World) : (convert 3 48 (.int .i64 (n : Int))).run Try.prog W = .ok (.int .u64 (n : Int)) W := by
  simp [convert, run_underlying Try.underlying3, run_underlying Try.underlying48, Conv.intToInt, u64_in n h]
theorem run_ofU (n : Nat) (h : n < 1099511627776) (W : World) : (convert 48 3 (.int .u64 (n : Int))).run Try.prog W = .ok (.int .i64 (n : Int)) W := by
  have e : IntKind.i64.wrap (n : Int) = (n : Int) := IntWalk.i64_in _ (by omega)
  simp [convert, run_underlying Try.underlying3, run_underlying Try.underlying48, Conv.intToInt, e]
section
variable {o : Oper} {a : Act}
theorem ex_toU {x : Operand} (ho : o.op = .convert 3 48 x) {n : Nat} (hx : a.eval x = .int .i64 (n : Int)) (h : n < 1099511627776) (w : World) : (execOp a.eval o).run Try.prog w = .ok (.value (.int .u64 (n : Int))) w := by
  simp only [execOp, ho, hx, Sem.run_bind, run_toU n h, Result.andThen_ok, Sem.run_pure]
theorem ex_ofU {x : Operand} (ho : o.op = .convert 48 3 x) {n : Nat} (hx : a.eval x = .int .u64 (n : Int)) (h : n < 1099511627776) (w : World) : (execOp a.eval o).run Try.prog w = .ok (.value (.int .i64 (n : Int))) w := by
  simp only [execOp, ho, hx, Sem.run_bind, run_ofU n h, Result.andThen_ok, Sem.run_pure]
theorem ex_halfU {x y : Operand} {t2 : TypeId} (ho : o.op = .binOp .shr 48 x y t2) {n : Nat} (hx : a.eval x = .int .u64 (n : Int)) (hy : a.eval y = .int .u64 1) (w : World) : (execOp a.eval o).run Try.prog w = .ok (.value (.int .u64 ((n / 2 : Nat) : Int))) w := by
  have e : (n : Int) >>> (1 : Nat) = ((n / 2 : Nat) : Int) := by rw [Int.shiftRight_eq_div_pow]; rfl
  have h8 : IntKind.u64.bits = 64 := rfl
  simp [execOp, ho, hx, hy, eqGuard, binOp, Op.shift, e, h8]
  exact Int.fdiv_eq_ediv_of_nonneg _ (by decide)
end
end Go.Proofs.Ytideigpabbhhkaa
/- Exchanging two stretches; turning two neighbours. -/

namespace Go.Proofs.Ytideigpabbhhkaa.SM
set_option linter.unusedVariables false
set_option linter.unusedSimpArgs false
section
variable {α : Type} (d : α)
/-- M is L with the two stretches of k places exchanged -/
def Swapped (L M : List α) (a b k : Nat) : Prop := M.Perm L ∧ ∀ x, at_ d M x = if a ≤ x ∧ x < a + k then at_ d L (x - a + b) else if b ≤ x ∧ x < b + k then at_ d L (x - b + a) else at_ d L x
theorem Swapped.zero (L : List α) (a b : Nat) : Swapped d L L a b 0 := ⟨.refl _, fun x => by rw [if_neg (by omega), if_neg (by omega)]⟩
theorem Swapped.step {L M : List α} {a b k : Nat} (h : Swapped d L M a b k) (hab : a + k < b) (hb : b + k < L.length) : Swapped d L (swp d M (a + k) (b + k)) a b (k + 1) := by
  have hl := h.1.length_eq
  refine ⟨(swp_perm d M _ _ (by omega) (by omega)).trans h.1, fun x => ?_⟩
  rw [at_swp d M _ _ x (by omega) (by omega)]
  by_cases h1 : x = b + k
  · rw [if_pos h1, h.2, if_neg (by omega), if_neg (by omega), if_neg (by omega), if_pos (by omega)]
    congr 1
    omega
  · rw [if_neg h1]
    by_cases h2 : x = a + k
    · rw [if_pos h2, h.2, if_neg (by omega), if_neg (by omega), if_pos (by omega)]
      congr 1
      omega
    · rw [if_neg h2, h.2]
      by_cases h3 : a ≤ x ∧ x < a + k
      · rw [if_pos h3, if_pos (by omega)]
      · rw [if_neg h3, if_neg (show ¬ (a ≤ x ∧ x < a + (k + 1)) by omega)]
        by_cases h4 : b ≤ x ∧ x < b + k
        · rw [if_pos h4, if_pos (by omega)]
        · rw [if_neg h4, if_neg (by omega)]
/-- where the places a .. b take what they hold from, when a .. m and m .. b have changed places -/
def rotAt (L : List α) (a m b x : Nat) : α := if a ≤ x ∧ x < b then (if x - a < b - m then at_ d L (m + (x - a)) else at_ d L (a + (x - a - (b - m)))) else at_ d L x
/-- what is under way: the window m - i .. m + j is not turned yet -/
structure Rot (L M : List α) (a m b i j : Nat) : Prop where
  perm : M.Perm L
  out : ∀ x, x < m - i ∨ m + j ≤ x → at_ d M x = rotAt d L a m b x
  win : ∀ k, k < i + j → rotAt d L a m b (m - i + k) = at_ d M (if k < j then m + k else m - i + (k - j))
theorem Rot.start (L : List α) (a m b : Nat) (h1 : a ≤ m) (h2 : m ≤ b) : Rot d L L a m b (m - a) (b - m) := by
  refine ⟨.refl _, fun x hx => ?_, fun k hk => ?_⟩
  · unfold rotAt
    rw [if_neg (by omega)]
  · unfold rotAt
    rw [if_pos (by omega)]
    have e : m - (m - a) + k - a = k := by omega
    rw [e]
    by_cases hkj : k < b - m
    · rw [if_pos hkj, if_pos hkj]
    · rw [if_neg hkj, if_neg hkj]
      congr 1
      omega
theorem Rot.left {L M N : List α} {a m b i j : Nat} (h : Rot d L M a m b i j) (hij : j < i) (him : i ≤ m) (hs : Swapped d M N (m - i) m j) : Rot d L N a m b (i - j) j := by
  refine ⟨hs.1.trans h.perm, fun x hx => ?_, fun k hk => ?_⟩
  · rw [hs.2]
    by_cases h1 : m - i ≤ x ∧ x < m - i + j
    · rw [if_pos h1]
      have := h.win (x - (m - i)) (by omega)
      rw [if_pos (by omega), show m - i + (x - (m - i)) = x by omega] at this
      rw [this]
      congr 1
      omega
    · rw [if_neg h1, if_neg (by omega)]
      exact h.out x (by omega)
  · have hw := h.win (j + k) (by omega)
    rw [if_neg (by omega), show m - i + (j + k) = m - (i - j) + k by omega] at hw
    rw [hw, hs.2]
    by_cases hkj : k < j
    · rw [if_pos hkj, if_neg (by omega), if_pos (by omega)]
      congr 1
      omega
    · rw [if_neg hkj, if_neg (by omega), if_neg (by omega)]
      congr 1
      omega
theorem Rot.right {L M N : List α} {a m b i j : Nat} (h : Rot d L M a m b i j) (hij : i < j) (him : i ≤ m) (hs : Swapped d M N (m - i) (m + j - i) i) : Rot d L N a m b i (j - i) := by
  refine ⟨hs.1.trans h.perm, fun x hx => ?_, fun k hk => ?_⟩
  · rw [hs.2]
    by_cases h1 : m + j - i ≤ x ∧ x < m + j - i + i
    · rw [if_neg (by omega), if_pos h1]
      have := h.win (x - (m - i)) (by omega)
      rw [if_neg (by omega), show m - i + (x - (m - i)) = x by omega] at this
      rw [this]
      congr 1
      omega
    · rw [if_neg (by omega), if_neg h1]
      exact h.out x (by omega)
  · have hw := h.win k (by omega)
    rw [hw, hs.2]
    by_cases hkj : k < j - i
    · rw [if_pos (show k < j by omega), if_pos hkj, if_neg (by omega), if_neg (by omega)]
    · rw [if_neg hkj, if_pos (show k < j by omega), if_pos (by omega)]
      congr 1
      omega
theorem Rot.last {L M N : List α} {a m b i : Nat} (h : Rot d L M a m b i i) (him : i ≤ m) (hs : Swapped d M N (m - i) m i) : N.Perm L ∧ ∀ x, at_ d N x = rotAt d L a m b x := by
  refine ⟨hs.1.trans h.perm, fun x => ?_⟩
  rw [hs.2]
  by_cases h1 : m - i ≤ x ∧ x < m - i + i
  · rw [if_pos h1]
    have := h.win (x - (m - i)) (by omega)
    rw [if_pos (by omega), show m - i + (x - (m - i)) = x by omega] at this
    rw [this]
    congr 1
    omega
  · rw [if_neg h1]
    by_cases h2 : m ≤ x ∧ x < m + i
    · rw [if_pos h2]
      have := h.win (x - (m - i)) (by omega)
      rw [if_neg (by omega), show m - i + (x - (m - i)) = x by omega] at this
      rw [this]
      congr 1
      omega
    · rw [if_neg h2]
      exact h.out x (by omega)
end
end Go.Proofs.Ytideigpabbhhkaa.SM
