/- The walk of the law FileChecks. -/
import Derived.Test.YtjlabbabgkfknaaMono
import Derived.Test.YtjlabbabgkfknaaFileCheckN
import Derived.Test.YtjlabbabgkfknaaFileCheckF1
import Derived.Test.YtjlabbabgkfknaaFileCheckF3
import Derived.Test.YtjlabbabgkfknaaFileCheckY1
import Derived.Test.YtjlabbabgkfknaaFileCheckY3
import Derived.Test.YtjlabbabgkfknaaRefFileN
import Derived.Test.YtjlabbabgkfknaaRefFileF1
import Derived.Test.YtjlabbabgkfknaaRefFileF3
import Derived.Test.YtjlabbabgkfknaaRefFileY1
import Derived.Test.YtjlabbabgkfknaaRefFileY3
namespace Go.Proofs.Ytjlabbabgkfknaa
set_option linter.unusedVariables false
set_option linter.unusedSimpArgs false
open Go.RowKit
theorem tblL_one (cs : List Int) (sl : Value) (h : ∃ A n c, sl = .slice A n c) : (tblL cs sl).toArray.all (·.oneCell') = true := by
  obtain ⟨A, n, c, rfl⟩ := h
  refine all_oneCell_toArray fun v hv => ?_
  unfold tblL at hv
  rcases List.mem_append.1 hv with hv | hv
  · obtain ⟨z, -, rfl⟩ := List.mem_map.1 hv
    rfl
  · rw [List.mem_singleton.1 hv]
    rfl
theorem argsOK_iff {wd hi pt ev : Int} (h : argsOK wd hi pt ev = true) : inB wd 1 64 = true ∧ inB hi 1 64 = true ∧ inB ev 0 100 = true ∧ (pt = 1 ∨ pt = 3) := by
  unfold argsOK at h
  simp only [Bool.and_eq_true, Bool.or_eq_true, beq_iff_eq] at h
  exact ⟨h.1.1.1, h.1.1.2, h.2, h.1.2⟩
theorem fcheck_any (wd hi pt ev : Int) (qs cs1 xs1 : List Int) (s1 : Value) (cs2 xs2 : List Int) (s2 : Value) (bs : List Nat) (sd : Value) (w : World) (hq : qs.length = 64) (h1 : cs1.length = 16) (h2 : cs2.length = 16)
    (hs1 : SL w 1 s1 xs1.length (ints xs1)) (hs2 : SL w 1 s2 xs2.length (ints xs2)) (hsd : SL w 1 sd bs.length (bytesV bs)) :
    Calls Try.prog 17 #[.agg (fileL wd hi pt qs (tblL cs1 s1) (tblL cs2 s2) ev sd).toArray] w fun e w' => e = .returned (.int .i64 (fcheckZ wd hi pt qs (checkZ cs1 xs1) (checkZ cs2 xs2) ev bs.length)) ∧ Ext w w' := by
  have o1 := tblL_one cs1 s1 (let ⟨A, c, h, _⟩ := hs1; ⟨A, _, c, h⟩)
  have o2 := tblL_one cs2 s2 (let ⟨A, c, h, _⟩ := hs2; ⟨A, _, c, h⟩)
  obtain ⟨A, c, rfl, -⟩ := hsd
  have l1 := tblL_len cs1 s1 h1
  have l2 := tblL_len cs2 s2 h2
  unfold fcheckZ
  cases ha : argsOK wd hi pt ev with
  | false => exact fcheck_no wd hi pt ev qs _ _ _ w hq l1 l2 ha
  | true =>
    obtain ⟨k1, k2, k3, hp⟩ := argsOK_iff ha
    cases kq : allIn qs 1 255 with
    | false =>
      rcases hp with rfl | rfl
      · exact fcheck_y1f wd hi ev qs _ _ A _ c 0 0 w hq l1 l2 k1 k2 k3 kq
      · exact fcheck_y3f wd hi ev qs _ _ A _ c 0 0 w hq l1 l2 k1 k2 k3 kq
    | true =>
      rcases hp with rfl | rfl
      · exact fcheck_y1t wd hi ev qs _ _ A _ c _ _ w hq l1 l2 k1 k2 k3 kq o1 o2 (fun W hW => check_any cs1 xs1 s1 W h1 (hs1.ext hW)) (fun W hW => check_any cs2 xs2 s2 W h2 (hs2.ext hW))
      · exact fcheck_y3t wd hi ev qs _ _ A _ c _ _ w hq l1 l2 k1 k2 k3 kq o1 o2 (fun W hW => check_any cs1 xs1 s1 W h1 (hs1.ext hW)) (fun W hW => check_any cs2 xs2 s2 W h2 (hs2.ext hW))
theorem rfcheck_any (wd hi pt ev : Int) (qs cs1 xs1 : List Int) (s1 : Value) (cs2 xs2 : List Int) (s2 : Value) (bs : List Nat) (sd : Value) (w : World) (hq : qs.length = 64) (h1 : cs1.length = 16) (h2 : cs2.length = 16)
    (hs1 : SL w 1 s1 xs1.length (ints xs1)) (hs2 : SL w 1 s2 xs2.length (ints xs2)) (hsd : SL w 1 sd bs.length (bytesV bs)) :
    Calls Try.prog 18 #[.agg (fileL wd hi pt qs (tblL cs1 s1) (tblL cs2 s2) ev sd).toArray] w fun e w' => e = .returned (.int .i64 (fcheckZ wd hi pt qs (checkZ cs1 xs1) (checkZ cs2 xs2) ev bs.length)) ∧ Ext w w' := by
  have o1 := tblL_one cs1 s1 (let ⟨A, c, h, _⟩ := hs1; ⟨A, _, c, h⟩)
  have o2 := tblL_one cs2 s2 (let ⟨A, c, h, _⟩ := hs2; ⟨A, _, c, h⟩)
  obtain ⟨A, c, rfl, -⟩ := hsd
  have l1 := tblL_len cs1 s1 h1
  have l2 := tblL_len cs2 s2 h2
  unfold fcheckZ
  cases ha : argsOK wd hi pt ev with
  | false => exact rfcheck_no wd hi pt ev qs _ _ _ w hq l1 l2 ha
  | true =>
    obtain ⟨k1, k2, k3, hp⟩ := argsOK_iff ha
    cases kq : allIn qs 1 255 with
    | false =>
      rcases hp with rfl | rfl
      · exact rfcheck_y1f wd hi ev qs _ _ A _ c 0 0 w hq l1 l2 k1 k2 k3 kq
      · exact rfcheck_y3f wd hi ev qs _ _ A _ c 0 0 w hq l1 l2 k1 k2 k3 kq
    | true =>
      rcases hp with rfl | rfl
      · exact rfcheck_y1t wd hi ev qs _ _ A _ c _ _ w hq l1 l2 k1 k2 k3 kq o1 o2 (fun W hW => rcheck_any cs1 xs1 s1 W h1 (hs1.ext hW)) (fun W hW => rcheck_any cs2 xs2 s2 W h2 (hs2.ext hW))
      · exact rfcheck_y3t wd hi ev qs _ _ A _ c _ _ w hq l1 l2 k1 k2 k3 kq o1 o2 (fun W hW => rcheck_any cs1 xs1 s1 W h1 (hs1.ext hW)) (fun W hW => rcheck_any cs2 xs2 s2 W h2 (hs2.ext hW))
theorem builtFile : ∃ fz, Try.prog.built 50 [] = some fz ∧ ∀ W, Calls Try.prog 17 #[.agg fz] W fun e W' => e = .returned (.int .i64 1) ∧ Ext W W' :=
  ⟨(fileL 0 0 0 (List.replicate 64 0) (tblL (List.replicate 16 0) (.slice none 0 0)) (tblL (List.replicate 16 0) (.slice none 0 0)) 0 (.slice none 0 0)).toArray, by kernel_rfl, fun W => fcheck_no 0 0 0 0 _ _ _ _ W rfl rfl rfl rfl⟩
theorem lx_build0 {P : Program} {md : Region.Mode} {ops : Array Oper} {R : World → World → Prop} {Q : Exit → Act → World → Prop} {rest : List Oper} {o : Oper} {k : Nat} {listed : Array Bool} {a : Act} {wc : World} (hw : Region.wanted o (yielded ops a.tmps) = true) (t : TypeId) (ho : o.op = .build t #[])
    (cs : Array Value) (hf : P.built t [] = some cs) (h : wpLx P md ops R Q rest (k + 1) (listed.setIfInBounds k true) (a.put o.dst (.agg cs)) wc) : wpLx P md ops R Q (o :: rest) k listed a wc := by
  refine lx_run hw (.agg cs) (fun w => ?_) h
  unfold execOp
  simp only [ho, Sem.run_bind, run_build w t (#[].map fun (i, x) => (i, a.eval x)) cs (by simpa using hf), Result.andThen_ok]
  rfl
end Go.Proofs.Ytjlabbabgkfknaa
namespace Go.Proofs.Ytjlabbabgkfknaa.fileChecks
open Go.RowKit
set_option maxRecDepth 20000 in
set_option maxHeartbeats 1000000 in
theorem walk (wd hi pt ev : Int) (qs cs1 xs1 : List Int) (s1 : Value) (cs2 xs2 : List Int) (s2 : Value) (bs : List Nat) (sd : Value) (hq : qs.length = 64) (h1 : cs1.length = 16) (h2 : cs2.length = 16) (w : World)
    (hs1 : SL w 1 s1 xs1.length (ints xs1)) (hs2 : SL w 1 s2 xs2.length (ints xs2)) (hsd : SL w 1 sd bs.length (bytesV bs)) :
    Calls Try.prog 6 #[.agg (fileL wd hi pt qs (tblL cs1 s1) (tblL cs2 s2) ev sd).toArray] w fun e w' => e = .returned (.bool true) ∧ Ext w w' := by
  have H1 := hid_ (fun W (hW : Ext w W) => fcheck_any wd hi pt ev qs cs1 xs1 s1 cs2 xs2 s2 bs sd W hq h1 h2 (hs1.ext hW) (hs2.ext hW) (hsd.ext hW))
  have H2 := hid_ (fun W (hW : Ext w W) => rfcheck_any wd hi pt ev qs cs1 xs1 s1 cs2 xs2 s2 bs sd W hq h1 h2 (hs1.ext hW) (hs2.ext hW) (hsd.ext hW))
  obtain ⟨fz, hfz, H3⟩ := builtFile
  have HZ := hid_ hfz
  have H3 := hid_ H3
  have hts := hid_ (fileL_len wd hi pt qs (tblL cs1 s1) (tblL cs2 s2) ev sd hq (tblL_len cs1 s1 h1) (tblL_len cs2 s2 h2))
  clear hfz hs1 hs2 hsd
  generalize (fileL wd hi pt qs (tblL cs1 s1) (tblL cs2 s2) ev sd).toArray = fv at *
  generalize fcheckZ wd hi pt qs (checkZ cs1 xs1) (checkZ cs2 xs2) ev bs.length = z at *
  have e1 : (z == z) = true := by simp
  go_enter Try.func6, Try.ntmps6
  go_wp2_with (refine wpList_box_abs rfl 50 (.tmp 0) rfl fv rfl ?_; intro w1 g hb1 hx1 hg)
  have hx1' := hx1.drew
  have hb1' := hb1.drew
  refine wp_region_lx later_ext (by kernel_rfl) (by kernel_rfl) ?_
  refine lx_load_blk (by rfl) 50 (.tmp 1) rfl g rfl (fun w h => hb1'.ext h) _ Try.underlying50 rfl 103 sizeFile hts.out ?_
  simp only [Act.put, List.setIfInBounds_toArray, List.set_cons_succ, List.set_cons_zero]
  refine lx_callF (by rfl) 17 Try.func17 rfl rfl _ _ rfl #[.agg fv] (by simp [Act.eval]) (.int .i64 z) (fun W h => H1.out W (hx1'.trans h)) ?_
  simp only [Act.put, List.setIfInBounds_toArray, List.set_cons_succ, List.set_cons_zero]
  refine lx_load_blk (by rfl) 50 (.tmp 1) rfl g rfl (fun w h => hb1'.ext h) _ Try.underlying50 rfl 103 sizeFile hts.out ?_
  simp only [Act.put, List.setIfInBounds_toArray, List.set_cons_succ, List.set_cons_zero]
  refine lx_callF (by rfl) 18 Try.func18 rfl rfl _ _ rfl #[.agg fv] (by simp [Act.eval]) (.int .i64 z) (fun W h => H2.out W (hx1'.trans h)) ?_
  simp only [Act.put, List.setIfInBounds_toArray, List.set_cons_succ, List.set_cons_zero]
  iterate 2 (refine lx_ex (by rfl) ?_; apply Exists.intro; refine ⟨fun w hw => ?_, ?_⟩; · (go_simp; with_reducible rfl)
             simp only [Act.put, List.setIfInBounds_toArray, List.set_cons_succ, List.set_cons_zero])
  refine lx_build0 (by rfl) 50 rfl fz HZ.out ?_
  simp only [Act.put, List.setIfInBounds_toArray, List.set_cons_succ, List.set_cons_zero]
  refine lx_callF (by rfl) 17 Try.func17 rfl rfl _ _ rfl #[.agg fz] (by simp [Act.eval]) (.int .i64 1) (fun W h => H3.out W) ?_
  simp only [Act.put, List.setIfInBounds_toArray, List.set_cons_succ, List.set_cons_zero]
  repeat (refine lx_ex (by rfl) ?_; apply Exists.intro; refine ⟨fun w hw => ?_, ?_⟩; · (go_simp; with_reducible rfl)
          simp only [Act.put, List.setIfInBounds_toArray, List.set_cons_succ, List.set_cons_zero])
  refine lx_nil ?_
  intro w3 hx3
  go_wp2_with fail
  go_ret
  exact ⟨rfl, hx1'.trans hx3⟩
end Go.Proofs.Ytjlabbabgkfknaa.fileChecks
