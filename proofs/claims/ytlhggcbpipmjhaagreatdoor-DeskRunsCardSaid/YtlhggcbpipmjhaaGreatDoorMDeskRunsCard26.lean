/- Contracts for the law DeskRunsCard, part 26: what the functions that it reaches answer, for all arguments that the theorems name. -/
import Derived.Deep.Cut
import Derived.Test.YtlhggcbpipmjhaaGreatDoorMDeskRunsCard19
import Derived.Test.YtlhggcbpipmjhaaGreatDoorMDeskRunsCard14
import Derived.Test.YtlhggcbpipmjhaaGreatDoorMDeskRunsCard10
namespace Go.Proofs.YtlhggcbpipmjhaaGreatDoor
set_option linter.unusedVariables false
set_option linter.unusedSimpArgs false
open Go.RowKit
theorem wpAnyI_sub {P : Program} {md : Region.Mode} {ops : Array Oper} {I I' : World → Prop} {QN : Act → World → Prop} (hI : ∀ w, I' w → I w) : ∀ (f : Nat) (listed : Array Bool) (a : Act) (w : World), wpAnyI P md ops I' QN f listed a w → wpAnyI P md ops I QN f listed a w
 | 0, _, _, _, h => h
 | f + 1, listed, a, w, h => ⟨h.1, fun i hi => wpOp_mono (fun a' w' h' => ⟨hI w' h'.1, wpAnyI_sub hI f _ _ _ h'.2⟩) (h.2 i hi)⟩
theorem VR_inj {v u : Value} {ps : List MemPlace} (h : VR v = some (.held u, ps)) : v = u := by
 unfold VR at h
 injection h with h
 injection h with h _
 injection h
theorem ex_lookC {o : Oper} {a : Act} {m x : Operand} (ho : o.op = .lookup 45 m x true) {mb n : Nat} {G : List UInt8 → Option Value} {w : World} (hm : a.eval m = .map (some mb)) (h : MapS Tryz.prog 9 w mb n G) {y : ByteArray} (hx : a.eval x = .string y) (hy : y.size ≤ 1000000)
 {u : Value} (hu : (G y.data.toList).getD (.agg #[.int .i64 0, .nilFunc]) = u) {c : Bool} (hc : (G y.data.toList).isSome = c) : (execOp a.eval o).run Tryz.prog w = .ok (.value (.tuple #[u, .bool c])) w := by
 have hyl : y.size ≤ maxLen := Nat.le_trans hy (by decide)
 obtain ⟨D, h1, -, h2⟩ := h
 obtain ⟨v, ps, hrun, hv⟩ := h1.look_ok (Go.Maps.string_keyed Tryz.underlying9) Tryz.underlying45 (zeroCallV w) (zd := .held (.agg #[.int .i64 0, .nilFunc])) (zp := []) rfl (WideMaps.keyOf_string_mk Tryz.underlying9 (s := y) hyl)
 rw [(h2 y.data.toList trivial).2, hu] at hv
 rw [(h2 y.data.toList trivial).1, hc] at hrun
 have : v = u := VR_inj hv
 subst this
 simp [execOp, ho, hm, hx, hrun, Result.andThen]
theorem ex_lenSs {o : Oper} {a : Act} {x : Operand} (ho : o.op = .call { callee := .builtin .len, args := #[x], argTypes := #[22] }) {A : Option Addr} {n c : Nat} (hx : a.eval x = .slice A n c) (w : World) : (execOp a.eval o).run Tryz.prog w = .ok (.value (.int .i64 (n : Int))) w := by
 simp [execOp, ho, resolve, invoke, builtin, hx, Result.andThen, Builtin.len_, goInt]
theorem goesCalls : Goes Tryz.prog 14 := ⟨_, Tryz.func14, rfl, rfl⟩
set_option maxRecDepth 20000 in
set_option maxHeartbeats 8000000 in
theorem line_any (s : ByteArray) (hs : s.size ≤ 300) (g : Nat) (b q : List Int) (w : World) (hS : StOk b q) (hD : Desk w g b q) (hE : EnvW w) :
 Calls Tryz.prog 7 #[.pointer (some ⟨g, 0, none⟩), .string s] w (ActIs (lineZ b q (wGo [] s.data.toList)) g w) := by
 have HFI := hid_ (fields_any s hs w)
 have HS := hid_ hS
 have HD := hid_ hD
 have HE := hid_ hE
 have HCA := hid_ calls_any
 have hsl := Lib.size_eq s
 have hwb := wGo_mem s.data.toList []
 have hwn := wGo_many s.data.toList []
 generalize wGo [] s.data.toList = ws at *
 have HWB : Hid (∀ x ∈ ws, x.length ≤ 300) := hid_ (fun x hx => by have := hwb x hx; simp only [List.length_nil] at this; omega)
 have hwn' : ws.length ≤ 301 := by omega
 clear hwb hwn hsl hS hD hE hs
 cases ws with
 | nil =>
   show Calls _ _ _ _ (ActIs (noZ 4 b q) g w)
   go_enter Tryz.func7, Tryz.ntmps7
   go_wp2_with (go_at_call 12; (with_reducible refine HFI.out.mono ?_); rintro e w1 ⟨A, n, L, rfl, hL, hA, hown, hLw, hx1⟩; have hn0 : n = 0 := (by rw [← hL, List.map_eq_nil_iff.1 hLw]; rfl); subst hn0)
   go_ret2
   exact noAct (by omega) HD.out hx1
 | cons x r =>
   obtain ⟨N, hN⟩ : ∃ N, r.length = N := ⟨_, rfl⟩
   have HN := hid_ hN
   have hNb : N ≤ 300 := by simp only [List.length_cons] at hwn'; omega
   clear hwn' hN
   go_enter Tryz.func7, Tryz.ntmps7
   go_upto_region 4 with (first
    | (go_at_call 12; (with_reducible refine HFI.out.mono ?_); rintro e w1 ⟨A, n, L, rfl, hL, hA, hown, hLw, hx1⟩; have hn1 : n = N + 1 := (by rw [← hL, ← HN.out]; have := congrArg List.length hLw; simpa using this); subst hn1)
    | ((with_reducible apply gS 18); refine wl_run rfl (.bool false) (ex_eql rfl rfl rfl (by simp; omega)) ?_))
   have hs1 := (own_out hown).1
   obtain ⟨y, L', rfl⟩ : ∃ y L', L = y :: L' := by
    cases L with
    | nil => cases hL
    | cons y L' => exact ⟨y, L', rfl⟩
   have hyx : y.data.toList = x := by simp at hLw; exact hLw.1
   have hLr : L'.map (·.data.toList) = r := by simp at hLw; exact hLw.2
   have hlt1 : A < w1.heap.size := by
    obtain ⟨ad, u, e, hl, -⟩ := hs1.at1 (k := 0) (by omega)
    injection e with e
    subst e
    exact hl
   have hcy : w1.cell? ⟨A, 0, none⟩ = some (.string y) := by
    obtain ⟨ad, u, e, hl, hu, hc⟩ := hs1.at1 (k := 0) (by omega)
    injection e with e
    subst e
    simp at hu
    subst hu
    exact hc
   have HCY := hid_ (fun W (h : Ext w1 W) => (h.cell (p := ⟨A, 0, none⟩) hlt1).trans hcy)
   have HSL := hid_ hs1
   have HYX := hid_ hyx
   have HYS : Hid (y.size ≤ 1000000) := hid_ (by have h1 := HWB.out x (by simp); rw [← hyx] at h1; have h2 := Lib.size_eq y; omega)
   have HLR := hid_ hLr
   have HA0 := hid_ hA
   clear hown hcy hs1 hLw hyx hLr hL hlt1 hA
   try simp only [Act.put, sA, sB, sC]
   go_cut [7, 8] from 19 to 26 (fun pv bv wx => ∃ g7 m F, pv = .pointer (some ⟨g7, 0, none⟩) ∧ bv = .bool (kindZ x).isSome ∧ Blk wx g7 43 #[.int .i64 m, F] ∧ (∀ k, kindZ x = some k → m = manyZ k ∧ ∃ lo, Hears lo k F wx) ∧ Ext w1 wx)
   case first =>
    have hI : Ext w1 w1.drew := (Ext.refl _).drew
    refine wp_region_oi (fun W => Ext w1 W) (by kernel_rfl) ?_
    refine oi_run (k := 1) (by kernel_rfl) rfl (by rfl) (.slice (some ⟨A, 0, none⟩) (N + 1) (N + 1)) (ex_move rfl rfl) hI ?_
    simp only [Act.put, sA, sB, sC]
    refine oi_run (k := 2) (by kernel_rfl) rfl (by rfl) (.pointer (some ⟨A, 0, none⟩)) (ex_ixSl0 Tryz.underlying22 sizeStr rfl (i := 0) rfl rfl (by omega)) hI ?_
    simp only [Act.put, sA, sB, sC]
    refine oi_fix (k := 3) (by kernel_rfl) rfl (by rfl) (.string y) (fun W hW => ex_loadS1 rfl rfl (HCY.out W hW)) hI ?_
    simp only [Act.put, sA, sB, sC]
    refine oi_two (k := 0) (l := 8) (by kernel_rfl) rfl rfl ?_ ?_
    ·--
     refine wl_enter (by rfl) (run_callv _ _ _ rfl rfl goesCalls #[] (by simp [Act.eval])) ?_
     refine (HCA.out _).mono ?_
     rintro _ w3 ⟨mb, G, rfl, hm, hG, hx3, hmb⟩
     have hI3 := hI.trans hx3
     refine ⟨_, rfl, oi_end ⟨hI3, ?_⟩⟩
     simp only [Act.put, sA, sB, sC]
     obtain ⟨m, F, hu, hc, ho1, hk⟩ := hG.at_ x
     rw [← HYX.out] at hu hc
     refine wpAnyI_sub (I' := fun W => Ext w3 W) (fun W h => hI3.trans h) _ _ _ _ ?_
     refine oi_fix (k := 4) (by kernel_rfl) rfl (by rfl) (.tuple #[.agg #[.int .i64 m, F], .bool (kindZ y.data.toList).isSome]) (fun W hW => ex_lookC rfl rfl (hm.ext hW) rfl HYS.out hu hc) (Ext.refl w3) ?_
     simp only [Act.put, sA, sB, sC]
     refine oi_run (k := 5) (by kernel_rfl) rfl (by rfl) (.tuple #[.agg #[.int .i64 m, F], .bool (kindZ y.data.toList).isSome]) (ex_move rfl rfl) (Ext.refl w3) ?_
     simp only [Act.put, sA, sB, sC]
     refine oi_run (k := 6) (by kernel_rfl) rfl (by rfl) (.agg #[.int .i64 m, F]) (ex_extract rfl rfl rfl) (Ext.refl w3) ?_
     simp only [Act.put, sA, sB, sC]
     refine oi_run (k := 7) (by kernel_rfl) rfl (by rfl) (.bool (kindZ y.data.toList).isSome) (ex_extract rfl rfl rfl) (Ext.refl w3) ?_
     simp only [Act.put, sA, sB, sC]
     refine oi_loud (k := 8) (by kernel_rfl) rfl ?_
     refine wAlo' rfl (some 7) rfl 43 rfl _ zeroCall ?_
     intro w4 g7 hb73 hy hg7
     refine oi_end ⟨hy, ?_⟩
     simp only [Act.put, sA, sB, sC]
     refine oi_loud (k := 9) (by kernel_rfl) rfl ?_
     refine wStB rfl 43 (.tmp 7) (.tmp 25) rfl g7 #[.int .i64 m, F] rfl rfl hb73 2 sizeCall rfl rfl (call_one ho1) ?_
     intro w5 hb5 hg5
     have hx5 := hy.grown hg5 hg7
     refine oi_end ⟨hx5, ?_⟩
     simp only [Act.put, sA, sB, sC]
     refine oi_run (k := 10) (by kernel_rfl) rfl (by rfl) (.bool (kindZ y.data.toList).isSome) (ex_assign rfl rfl) hx5 ?_
     simp only [Act.put, sA, sB, sC]
     refine oi_done (by kernel_rfl) ?_
     go_wp2_with fail
     go_meet
     case rel => exact ⟨g7, m, F, rfl, by rw [HYX.out], hb5, fun k h => ⟨(hk k h).1, _, (hk k h).2.above (Above.of_ext hx5)⟩, hI3.trans hx5⟩
    ·--
     refine wAlo' rfl (some 7) rfl 43 rfl _ zeroCall ?_
     intro w2 g7 hb7 hy hg7
     refine oi_end ⟨hI.trans hy, ?_⟩
     simp only [Act.put, sA, sB, sC]
     have hI2 := hI.trans hy
     refine oi_loud (k := 0) (by kernel_rfl) rfl ?_
     refine wl_enter (by rfl) (run_callv _ _ _ rfl rfl goesCalls #[] (by simp [Act.eval])) ?_
     refine (HCA.out _).mono ?_
     rintro _ w3 ⟨mb, G, rfl, hm, hG, hx3, hmb⟩
     have hI3 := hI2.trans hx3
     have hb73 := hb7.ext hx3
     refine ⟨_, rfl, oi_end ⟨hI3, ?_⟩⟩
     simp only [Act.put, sA, sB, sC]
     obtain ⟨m, F, hu, hc, ho1, hk⟩ := hG.at_ x
     rw [← HYX.out] at hu hc
     refine wpAnyI_sub (I' := fun W => Ext w1 W ∧ MapS Tryz.prog 9 W mb 12 G) (fun W h => h.1) _ _ _ _ ?_
     refine oi_fix (k := 4) (by kernel_rfl) rfl (by rfl) (.tuple #[.agg #[.int .i64 m, F], .bool (kindZ y.data.toList).isSome]) (fun W hW => ex_lookC rfl rfl hW.2 rfl HYS.out hu hc) ⟨hI3, hm⟩ ?_
     simp only [Act.put, sA, sB, sC]
     refine oi_run (k := 5) (by kernel_rfl) rfl (by rfl) (.tuple #[.agg #[.int .i64 m, F], .bool (kindZ y.data.toList).isSome]) (ex_move rfl rfl) ⟨hI3, hm⟩ ?_
     simp only [Act.put, sA, sB, sC]
     refine oi_run (k := 6) (by kernel_rfl) rfl (by rfl) (.agg #[.int .i64 m, F]) (ex_extract rfl rfl rfl) ⟨hI3, hm⟩ ?_
     simp only [Act.put, sA, sB, sC]
     refine oi_run (k := 7) (by kernel_rfl) rfl (by rfl) (.bool (kindZ y.data.toList).isSome) (ex_extract rfl rfl rfl) ⟨hI3, hm⟩ ?_
     simp only [Act.put, sA, sB, sC]
     refine oi_loud (k := 9) (by kernel_rfl) rfl ?_
     refine wStB rfl 43 (.tmp 7) (.tmp 25) rfl g7 #[.int .i64 m, F] rfl rfl hb73 2 sizeCall rfl rfl (call_one ho1) ?_
     intro w5 hb5 hg5
     have hu5 : Upd (fun x => x = g7) w3 w5 := (Upd.refl (fun x => x = g7) w3).grown hg5 (fun x hx => .inl (by cases hx; rfl))
     have hx5 : Ext w1 w5 := hI3.grown hg5 hg7
     have hm5 : MapS Tryz.prog 9 w5 mb 12 G := hm.grown hg5 (by have := hb7.lt; intro e; injection e with e; omega)
     refine oi_end ⟨⟨hx5, hm5⟩, ?_⟩
     simp only [Act.put, sA, sB, sC]
     refine oi_run (k := 10) (by kernel_rfl) rfl (by rfl) (.bool (kindZ y.data.toList).isSome) (ex_assign rfl rfl) ⟨hx5, hm5⟩ ?_
     simp only [Act.put, sA, sB, sC]
     refine oi_done (by kernel_rfl) ?_
     go_wp2_with fail
     go_meet
     case rel => exact ⟨g7, m, F, rfl, by rw [HYX.out], hb5, fun k h => ⟨(hk k h).1, _, (hk k h).2.above (Above.of_upd hu5 (by have := hb7.lt; omega))⟩, hx5⟩
   case rest =>
    obtain ⟨g7, m, F, rfl, rfl, hb7, hk, hx2⟩ := hcut
    have HZ : Hid (lineZ b q (x :: r) = match kindZ x with | none => noZ 4 b q | some k => if okM k N then (match numsZ r with | none => noZ 4 b q | some n => actZ k b q n) else noZ 4 b q) := hid_ (by rw [← HN.out]; rfl)
    cases hkx : kindZ x with
    | none =>
      rw [hkx] at HZ
      simp only [Option.isSome_none]
      dsimp only at HZ
      go_wp2_with fail
      go_ret2
      rw [HZ.out]
      exact noAct (by omega) HD.out (hx1.trans hx2)
    | some k =>
      obtain ⟨hm, lo, hh⟩ := hk k hkx
      rw [hkx] at HZ
      simp only [Option.isSome_some]
      dsimp only at HZ
      have hMb : -1 ≤ m ∧ m ≤ 3 := by rw [hm]; unfold manyZ; split <;> omega
      have HOK : Hid (okM k N = if m < 0 then decide (1 ≤ N) else decide ((N : Int) = m)) := hid_ (by rw [hm]; rfl)
      clear hm hk
      obtain ⟨M, hM⟩ : ∃ M, m = M := ⟨_, rfl⟩
      subst hM
      have hxc := hx1.trans hx2
      have HHC := hid_ hh
      clear hh hkx hx1
      go_upto_region 5 with fail
      go_cut [46] from 27 to 46 (fun cv wx => cv = .bool (!okM k N) ∧ wx = wc)
      case first =>
       by_cases c1 : (N : Int) = m
       ·have C1 : Hid (decide (((N + 1 - 1 : Nat) : Int) ≠ m) = false) := hid_ (by simp; omega)
        have HO : Hid (okM k N = true) := hid_ (by rw [HOK.out, if_neg (by omega)]; simp; omega)
        clear c1
        refine wp_region_lit ?_
        refine wl_run rfl (.bool true) (ex_move rfl rfl) ?_
        simp only [Act.put, sA, sB, sC]
        refine wl_run rfl (.bool false) (ex_not (b := true) rfl rfl) ?_
        simp only [Act.put, sA, sB, sC]
        refine wl_run rfl (.bool false) (ex_move rfl rfl) ?_
        simp only [Act.put, sA, sB, sC]
        refine wl_run_g (by rfl) (.slice (some ⟨A, 0, none⟩) (N + 1) (N + 1)) (ex_move rfl rfl) ?_
        simp only [Act.put, sA, sB, sC]
        refine wl_run_g (by rfl) (.int .i64 ((N + 1 : Nat) : Int)) (ex_lenSs rfl rfl) ?_
        simp only [Act.put, sA, sB, sC]
        refine wl_run_g (by rfl) (.int .i64 (((N + 1) - 1 : Nat) : Int)) (ex_subN (i := N + 1) (d := 1) rfl rfl rfl (by omega) (by omega)) ?_
        simp only [Act.put, sA, sB, sC]
        refine wl_run_g (by rfl) (.pointer (some ⟨g7, 0, none⟩)) (fun W => by go_simp) ?_
        simp only [Act.put, sA, sB, sC]
        refine wl_read_g (by rfl) (.int .i64 (m)) (ex_loadI rfl rfl (hb7.cell 0)) ?_
        simp only [Act.put, sA, sB, sC]
        refine wl_run_g (by rfl) (.bool false) (ex_neq (m := (((N + 1) - 1 : Nat) : Int)) (n := m) rfl rfl rfl C1.out) ?_
        simp only [Act.put, sA, sB, sC]
        go_wp2_with fail
        go_meet
        case rel => exact ⟨by rw [HO.out]; rfl, rfl⟩
       ·have C1 : Hid (decide (((N + 1 - 1 : Nat) : Int) ≠ m) = true) := hid_ (by simp; omega)
        by_cases c2 : 0 ≤ m
        ·have C2 : Hid (decide (((0 : Nat) : Int) ≤ m) = true) := hid_ (by simpa using c2)
         have HO : Hid (okM k N = false) := hid_ (by rw [HOK.out, if_neg (by omega)]; simp; omega)
         clear c1 c2
         refine wp_region_lit ?_
         refine wl_run rfl (.bool true) (ex_move rfl rfl) ?_
         simp only [Act.put, sA, sB, sC]
         refine wl_run rfl (.bool false) (ex_not (b := true) rfl rfl) ?_
         simp only [Act.put, sA, sB, sC]
         refine wl_run rfl (.bool false) (ex_move rfl rfl) ?_
         simp only [Act.put, sA, sB, sC]
         refine wl_run_g (by rfl) (.slice (some ⟨A, 0, none⟩) (N + 1) (N + 1)) (ex_move rfl rfl) ?_
         simp only [Act.put, sA, sB, sC]
         refine wl_run_g (by rfl) (.int .i64 ((N + 1 : Nat) : Int)) (ex_lenSs rfl rfl) ?_
         simp only [Act.put, sA, sB, sC]
         refine wl_run_g (by rfl) (.int .i64 (((N + 1) - 1 : Nat) : Int)) (ex_subN (i := N + 1) (d := 1) rfl rfl rfl (by omega) (by omega)) ?_
         simp only [Act.put, sA, sB, sC]
         refine wl_run_g (by rfl) (.pointer (some ⟨g7, 0, none⟩)) (fun W => by go_simp) ?_
         simp only [Act.put, sA, sB, sC]
         refine wl_read_g (by rfl) (.int .i64 (m)) (ex_loadI rfl rfl (hb7.cell 0)) ?_
         simp only [Act.put, sA, sB, sC]
         refine wl_run_g (by rfl) (.bool true) (ex_neq (m := (((N + 1) - 1 : Nat) : Int)) (n := m) rfl rfl rfl C1.out) ?_
         simp only [Act.put, sA, sB, sC]
         refine wl_run_g (by rfl) (.bool true) (ex_move rfl rfl) ?_
         simp only [Act.put, sA, sB, sC]
         refine wl_run_g (by rfl) (.pointer (some ⟨g7, 0, none⟩)) (fun W => by go_simp) ?_
         simp only [Act.put, sA, sB, sC]
         refine wl_read_g (by rfl) (.int .i64 (m)) (ex_loadI rfl rfl (hb7.cell 0)) ?_
         simp only [Act.put, sA, sB, sC]
         refine wl_run_g (by rfl) (.bool true) (ex_geq (m := m) (n := 0) rfl rfl rfl C2.out) ?_
         simp only [Act.put, sA, sB, sC]
         go_wp2_with fail
         go_meet
         case rel => exact ⟨by rw [HO.out]; rfl, rfl⟩
        ·have C2 : Hid (decide (((0 : Nat) : Int) ≤ m) = false) := hid_ (by simp; omega)
         by_cases c3 : N + 1 < 2
         ·have C3 : Hid (decide (((N + 1 : Nat) : Int) < ((2 : Nat) : Int)) = true) := hid_ (by simp; omega)
          have HO : Hid (okM k N = false) := hid_ (by rw [HOK.out, if_pos (by omega)]; simp; omega)
          clear c1 c2 c3
          refine wp_region_lit ?_
          refine wl_run rfl (.bool true) (ex_move rfl rfl) ?_
          simp only [Act.put, sA, sB, sC]
          refine wl_run rfl (.bool false) (ex_not (b := true) rfl rfl) ?_
          simp only [Act.put, sA, sB, sC]
          refine wl_run rfl (.bool false) (ex_move rfl rfl) ?_
          simp only [Act.put, sA, sB, sC]
          refine wl_run_g (by rfl) (.slice (some ⟨A, 0, none⟩) (N + 1) (N + 1)) (ex_move rfl rfl) ?_
          simp only [Act.put, sA, sB, sC]
          refine wl_run_g (by rfl) (.int .i64 ((N + 1 : Nat) : Int)) (ex_lenSs rfl rfl) ?_
          simp only [Act.put, sA, sB, sC]
          refine wl_run_g (by rfl) (.int .i64 (((N + 1) - 1 : Nat) : Int)) (ex_subN (i := N + 1) (d := 1) rfl rfl rfl (by omega) (by omega)) ?_
          simp only [Act.put, sA, sB, sC]
          refine wl_run_g (by rfl) (.pointer (some ⟨g7, 0, none⟩)) (fun W => by go_simp) ?_
          simp only [Act.put, sA, sB, sC]
          refine wl_read_g (by rfl) (.int .i64 (m)) (ex_loadI rfl rfl (hb7.cell 0)) ?_
          simp only [Act.put, sA, sB, sC]
          refine wl_run_g (by rfl) (.bool true) (ex_neq (m := (((N + 1) - 1 : Nat) : Int)) (n := m) rfl rfl rfl C1.out) ?_
          simp only [Act.put, sA, sB, sC]
          refine wl_run_g (by rfl) (.bool true) (ex_move rfl rfl) ?_
          simp only [Act.put, sA, sB, sC]
          refine wl_run_g (by rfl) (.pointer (some ⟨g7, 0, none⟩)) (fun W => by go_simp) ?_
          simp only [Act.put, sA, sB, sC]
          refine wl_read_g (by rfl) (.int .i64 (m)) (ex_loadI rfl rfl (hb7.cell 0)) ?_
          simp only [Act.put, sA, sB, sC]
          refine wl_run_g (by rfl) (.bool false) (ex_geq (m := m) (n := 0) rfl rfl rfl C2.out) ?_
          simp only [Act.put, sA, sB, sC]
          refine wl_run_g (by rfl) (.bool false) (ex_move rfl rfl) ?_
          simp only [Act.put, sA, sB, sC]
          refine wl_run_g (by rfl) (.slice (some ⟨A, 0, none⟩) (N + 1) (N + 1)) (ex_move rfl rfl) ?_
          simp only [Act.put, sA, sB, sC]
          refine wl_run_g (by rfl) (.int .i64 ((N + 1 : Nat) : Int)) (ex_lenSs rfl rfl) ?_
          simp only [Act.put, sA, sB, sC]
          refine wl_run_g (by rfl) (.bool true) (ex_lss (m := ((N + 1 : Nat) : Int)) (n := 2) rfl rfl rfl C3.out) ?_
          simp only [Act.put, sA, sB, sC]
          go_wp2_with fail
          go_meet
          case rel => exact ⟨by rw [HO.out]; rfl, rfl⟩
         ·have C3 : Hid (decide (((N + 1 : Nat) : Int) < ((2 : Nat) : Int)) = false) := hid_ (by simp; omega)
          have HO : Hid (okM k N = true) := hid_ (by rw [HOK.out, if_pos (by omega)]; simp; omega)
          clear c1 c2 c3
          refine wp_region_lit ?_
          refine wl_run rfl (.bool true) (ex_move rfl rfl) ?_
          simp only [Act.put, sA, sB, sC]
          refine wl_run rfl (.bool false) (ex_not (b := true) rfl rfl) ?_
          simp only [Act.put, sA, sB, sC]
          refine wl_run rfl (.bool false) (ex_move rfl rfl) ?_
          simp only [Act.put, sA, sB, sC]
          refine wl_run_g (by rfl) (.slice (some ⟨A, 0, none⟩) (N + 1) (N + 1)) (ex_move rfl rfl) ?_
          simp only [Act.put, sA, sB, sC]
          refine wl_run_g (by rfl) (.int .i64 ((N + 1 : Nat) : Int)) (ex_lenSs rfl rfl) ?_
          simp only [Act.put, sA, sB, sC]
          refine wl_run_g (by rfl) (.int .i64 (((N + 1) - 1 : Nat) : Int)) (ex_subN (i := N + 1) (d := 1) rfl rfl rfl (by omega) (by omega)) ?_
          simp only [Act.put, sA, sB, sC]
          refine wl_run_g (by rfl) (.pointer (some ⟨g7, 0, none⟩)) (fun W => by go_simp) ?_
          simp only [Act.put, sA, sB, sC]
          refine wl_read_g (by rfl) (.int .i64 (m)) (ex_loadI rfl rfl (hb7.cell 0)) ?_
          simp only [Act.put, sA, sB, sC]
          refine wl_run_g (by rfl) (.bool true) (ex_neq (m := (((N + 1) - 1 : Nat) : Int)) (n := m) rfl rfl rfl C1.out) ?_
          simp only [Act.put, sA, sB, sC]
          refine wl_run_g (by rfl) (.bool true) (ex_move rfl rfl) ?_
          simp only [Act.put, sA, sB, sC]
          refine wl_run_g (by rfl) (.pointer (some ⟨g7, 0, none⟩)) (fun W => by go_simp) ?_
          simp only [Act.put, sA, sB, sC]
          refine wl_read_g (by rfl) (.int .i64 (m)) (ex_loadI rfl rfl (hb7.cell 0)) ?_
          simp only [Act.put, sA, sB, sC]
          refine wl_run_g (by rfl) (.bool false) (ex_geq (m := m) (n := 0) rfl rfl rfl C2.out) ?_
          simp only [Act.put, sA, sB, sC]
          refine wl_run_g (by rfl) (.bool false) (ex_move rfl rfl) ?_
          simp only [Act.put, sA, sB, sC]
          refine wl_run_g (by rfl) (.slice (some ⟨A, 0, none⟩) (N + 1) (N + 1)) (ex_move rfl rfl) ?_
          simp only [Act.put, sA, sB, sC]
          refine wl_run_g (by rfl) (.int .i64 ((N + 1 : Nat) : Int)) (ex_lenSs rfl rfl) ?_
          simp only [Act.put, sA, sB, sC]
          refine wl_run_g (by rfl) (.bool false) (ex_lss (m := ((N + 1 : Nat) : Int)) (n := 2) rfl rfl rfl C3.out) ?_
          simp only [Act.put, sA, sB, sC]
          go_wp2_with fail
          go_meet
          case rel => exact ⟨by rw [HO.out]; rfl, rfl⟩
      case rest =>
       obtain ⟨rfl, rfl⟩ := hcut
       cases hok : okM k N with
       | false =>
         rw [hok] at HZ
         simp only [Bool.not_false, Bool.false_eq_true, if_false] at HZ ⊢
         go_wp2_with fail
         go_ret2
         rw [HZ.out]
         exact noAct (by omega) HD.out hxc
       | true =>
         rw [hok] at HZ
         simp only [Bool.not_true, if_true] at HZ ⊢
         have hs9 := (HSL.out.ext hx2).tail (by omega)
         obtain ⟨A9, hA9⟩ : ∃ A9, (if N + 1 = 1 then some (⟨A, 0, none⟩ : Addr) else (some (⟨A, 0, none⟩ : Addr)).map (·.add 1)) = A9 := ⟨_, rfl⟩
         have HA9 := hid_ hA9
         rw [hA9] at hs9
         have hs9' : SL wc 1 (.slice A9 N N) N (L'.map Value.string) := hs9
         have HS9 := hid_ hs9'
         have HLN : Hid (L'.length = N) := hid_ (by rw [← HN.out, ← HLR.out, List.length_map])
         clear hs9 hs9' hA9
         go_wp2_with ((with_reducible apply gS 48); refine wl_run rfl (.slice A9 N N) (by rw [← HA9.out]; exact ex_sliceT (A := some ⟨A, 0, none⟩) (n := N + 1) (c := N + 1) rfl rfl rfl (by omega) (by omega)) ?_)
         go_loopw [9, 50] (fun sv iv wr => ∃ (j : Nat) (B : Option Addr) (d : Nat) (zs : List Int), j ≤ N ∧ iv = .int .i64 (j : Int) ∧ sv = .slice B j d ∧ numsZ (r.take j) = some zs ∧ zs.length = j ∧ wr.ownsRow wc.heap.size 3 1 (.slice B j d) j (ints zs) ∧ Ext wc wr) (fun _ iv _ => N - (intOf iv).toNat)
         case atStart => exact ⟨0, none, 0, [], by omega, rfl, rfl, rfl, rfl, own_nil _ _ _ _, Ext.refl _⟩
         case round =>
          obtain ⟨j, B, d, zs, hj, rfl, rfl, hnz, hzl, hown, hx⟩ := hrel
          have HNZ := hid_ hnz
          have HZL := hid_ hzl
          clear hnz hzl
          by_cases hlt : j < N
          ·obtain ⟨ad, u, rfl, hab, hu, hc⟩ := (HS9.out.ext hx).at1 hlt
           have hjL : j < L'.length := by rw [HLN.out]; exact hlt
           have hjr : j < r.length := by rw [HN.out]; exact hlt
           have huy : u = .string L'[j] := by
            rw [List.getElem?_map, List.getElem?_eq_getElem hjL] at hu
            injection hu with hu
            exact hu.symm
           have hyr : L'[j].data.toList = r[j] := by simp only [← HLR.out, List.getElem_map]
           have hys : L'[j].size ≤ 300 := by
            have h1 := HWB.out r[j] (List.mem_cons_of_mem _ (List.getElem_mem hjr))
            rw [← hyr] at h1
            have h2 := Lib.size_eq L'[j]
            omega
           have HNU := hid_ (HE.out.number L'[j] hys wr (hxc.trans hx))
           have hap := numsZ_append (r.take j) r[j]
           rw [HNZ.out] at hap
           have hts : r.take (j + 1) = r.take j ++ [r[j]] := List.take_succ_eq_append_getElem hjr
           rw [← hts] at hap
           dsimp only at hap
           rw [hyr] at HNU
           subst huy
           clear hyr hys hu
           generalize L'[j] = y2 at *
           cases hnp : numP r[j] with
           | none =>
             rw [hnp] at HNU hap
             have HNN : Hid (numsZ r = none) := hid_ (by
              have h1 := numsZ_pre (m := r.drop (j + 1)) hap
              rwa [List.take_append_drop] at h1)
             clear hap hnp hts
             go_wp2_with (first
              | ((with_reducible apply gS 53); refine wl_read rfl (.string y2) (ex_loadS1 rfl rfl (by simpa using hc)) ?_)
              | (go_at_call 15; (with_reducible refine HNU.out.mono ?_); rintro e w2 ⟨nn, is, rfl, hnum, hx3⟩; have his : is = false := (by cases is with | false => rfl | true => cases hnum); subst his))
             go_ret2
             rw [HZ.out, HNN.out]
             exact noAct (by omega) HD.out ((hxc.trans hx).trans hx3)
           | some z =>
             rw [hnp] at HNU hap
             have HAP : Hid (numsZ (r.take (j + 1)) = some (zs ++ [z])) := hid_ hap
             clear hap hnp hts
             have HIA : Hid (ints (zs ++ [z]) = ints zs ++ [.int .i64 z]) := hid_ (by simp [ints])
             have HZ1 : Hid ((zs ++ [z]).length = j + 1) := hid_ (by simp [HZL.out])
             generalize ints zs = XS at *
             go_wp2_with (first
              | ((with_reducible apply gS 53); refine wl_read rfl (.string y2) (ex_loadS1 rfl rfl (by simpa using hc)) ?_)
              | (go_at_call 15; (with_reducible refine HNU.out.mono ?_); rintro e w2 ⟨nn, is, rfl, hnum, hx3⟩; have his : is = true ∧ nn = z := (by cases is with | false => cases hnum | true => exact ⟨rfl, by injection hnum⟩); obtain ⟨rfl, rfl⟩ := his; have hown2 := own_keep hown hx3)
              | ((with_reducible apply gS 63); refine lit1I rfl (.tmp 62) rfl (some 63) rfl nn rfl ?_; intro w5 gb hbb hx5 hgb; have hown5 := own_keep hown2 hx5; have hx15 := (hx.trans hx3).trans hx5; have hsz : wc.heap.size ≤ w5.heap.size := hx15.size)
              | ((with_reducible apply gS 64); refine wApf elt_intD rfl _ _ rfl wc.heap.size _ _ _ rfl hown5 _ 1 [.int .i64 nn] rfl hbb (ints_one_mem [nn]) (by omega) (by omega) hsz ?_; intro B7 d7 w7 hown7 hg7 hrow7))
             have hy7 : Ext wc w7 := (upd_grown hg7).ext hx15 (fun b hb => (hown5.lt b hb).1)
             go_roundw
             case rel => exact ⟨j + 1, B7, d7, zs ++ [nn], by omega, by go_num, rfl, HAP.out, HZ1.out, by rw [HIA.out]; exact hown7, hy7⟩
             case measure => simp [intOf]; omega
          ·have ej : j = N := by omega
           subst ej
           have hall : r.take j = r := by rw [← HN.out, List.take_length]
           have HNR : Hid (numsZ r = some zs) := hid_ (by have := HNZ.out; rwa [hall] at this)
           obtain ⟨f, cap, rfl, hG, hcall⟩ := HHC.out
           have hsl := (own_out hown).1
           have HC9 := hid_ (hcall wr (Above.of_ext hx) (HE.out.1.ext (hxc.trans hx)) g b q zs (.slice B j d) HS.out (HD.out.ext (hxc.trans hx)) (by rw [HZL.out]; exact hok) (by rw [HZL.out]; exact hsl))
           have hb9 := hb7.ext hx
           clear hcall hall
           go_wp2_with (first
            | ((with_reducible apply gS 67); refine wl_read rfl (.func (.func f) #[] cap) (ex_loadFc Tryz.underlying41 rfl rfl rfl (hb9.cell 1)) ?_)
            | ((with_reducible apply gS 70); refine wl_enter (by rfl) (run_callv (.tmp 67) #[.tmp 68, .tmp 69] _ rfl rfl hG (#[.pointer (some ⟨g, 0, none⟩), .slice B j d] ++ cap) (by simp [Act.eval])) ?_; refine HC9.out.mono ?_; rintro e w9 ⟨s9, rfl, hs9, hd9, hu9⟩; refine ⟨_, rfl, ?_⟩))
           go_ret2
           rw [HZ.out, HNR.out]
           exact ActIs.from_ ⟨s9, rfl, hs9, hd9, hu9⟩ (hxc.trans hx)
end Go.Proofs.YtlhggcbpipmjhaaGreatDoor
