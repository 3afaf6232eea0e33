/- Contracts for the law RescueDecodesCard, part 25: what the functions that it reaches answer, for all arguments that the theorems name. -/
import Derived.Test.YtkggcjdlpendfaaGreatDoorMRescueDecodesCard16
import Derived.Test.YtkggcjdlpendfaaGreatDoorMRescueDecodesCard24
import Derived.Test.YtkggcjdlpendfaaGreatDoorMRescueDecodesCard19
import Derived.Test.YtkggcjdlpendfaaGreatDoorMRescueDecodesCard17
import Derived.Test.YtkggcjdlpendfaaGreatDoorMRescueDecodesCard21
namespace Go.Proofs.YtkggcjdlpendfaaGreatDoor
set_option linter.unusedVariables false
set_option linter.unusedSimpArgs false
open Go.RowKit
section
structure RefIn (g gs : Nat) (tt : Array Value) (D : List Bool) (W0 W : World) (p : Nat) : Prop where
 gt : Blk W g 44 tt
 st : Blk W gs 9 #[.string (strB (D.drop p))]
 b : Ext W0 W
 le : p ≤ D.length
 lo : W0.heap.size ≤ gs
 ne : g ≠ gs
section
variable {g gs : Nat} {tt : Array Value} {D : List Bool} {W0 W W' : World} {p p' : Nat}
theorem RefIn.ext (h : RefIn g gs tt D W0 W p) (hx : Ext W W') : RefIn g gs tt D W0 W' p := ⟨h.gt.ext hx, h.st.ext hx, h.b.trans hx, h.le, h.lo, h.ne⟩
theorem RefIn.keep (h : RefIn g gs tt D W0 W p) {B : Nat} (h1 : g < B) (h2 : gs < B) (hu : Upd (fun b => B ≤ b) W W') : RefIn g gs tt D W0 W' p :=
 ⟨hu.blk h.gt (by omega), hu.blk h.st (by omega), hu.ext h.b (fun x hx => by have := h.lo; omega), h.le, h.lo, h.ne⟩
theorem RefIn.moved (h : RefIn g gs tt D W0 W p) (hu : Upd (fun x => x = gs) W W') (hs : Blk W' gs 9 #[.string (strB (D.drop p'))]) (hp : p' ≤ D.length) : RefIn g gs tt D W0 W' p' :=
 ⟨hu.blk h.gt h.ne, hs, hu.ext h.b (fun x hx => by have := h.lo; omega), hp, h.lo, h.ne⟩
end
theorem ex_build3 {P : Program} {o : Oper} {a : Act} {t : TypeId} {x y z : Operand} (ho : o.op = .build t #[(0, x), (1, y), (2, z)]) {vx vy vz : Value} (hx : a.eval x = vx) (hy : a.eval y = vy) (hz : a.eval z = vz) {cs : Array Value} (hf : P.built t [(0, vx), (1, vy), (2, vz)] = some cs) (w : World) : (execOp a.eval o).run P w = .ok (.value (.agg cs)) w := by
 simp only [execOp, ho, Sem.run_bind, run_build w t (#[(0, x), (1, y), (2, z)].map fun (i, x) => (i, a.eval x)) cs (by simpa [hx, hy, hz] using hf), Result.andThen_ok, Sem.run_pure]
theorem builtTok3 (x y z : Int) : Tryz.prog.built 149 [(0, .int .i64 x), (1, .int .i64 y), (2, .int .i64 z)] = some #[.int .i64 x, .int .i64 y, .int .i64 z] := by
 show _ = _
 kernel_rfl
theorem run_rem16 (m : Nat) (h : m ≤ 255) (W : World) : (binOp .rem 3 (.int .i64 (m : Int)) (.int .i64 16)).run Tryz.prog W = .ok (.int .i64 ((m % 16 : Nat) : Int)) W := run_remN m 16 (by omega) (by omega) W
section
variable {o : Oper} {a : Act}
theorem run_strTo (s : ByteArray) (k : Nat) (hk : k ≤ s.size) (W : World) : (Instr.slice 9 (.string s) none (some (.int .i64 (k : Int))) none).run Tryz.prog W = .ok (.string (s.extract 0 k)) W := by
 have e1 : (k : Int) ≤ (s.size : Int) := by omega
 go_simp
theorem run_strFrom (s : ByteArray) (k : Nat) (hk : k ≤ s.size) (W : World) : (Instr.slice 9 (.string s) (some (.int .i64 (k : Int))) none none).run Tryz.prog W = .ok (.string (s.extract k s.size)) W := by
 have e1 : (k : Int) ≤ (s.size : Int) := by omega
 go_simp
theorem ex_lenS {x : Operand} (ho : o.op = .call { callee := .builtin .len, args := #[x], argTypes := #[9] }) {s : ByteArray} (hx : a.eval x = .string s) {q : Nat} (hq : s.size = q) (w : World) : (execOp a.eval o).run Tryz.prog w = .ok (.value (.int .i64 (q : Int))) w := by
 subst hq
 simp only [execOp, ho, resolve, invoke, builtin, Sem.run_bind, Sem.run_pure, Result.andThen_ok, List.map_toArray, List.map_cons, List.map_nil, hx]
 go_simp
theorem ex_strTo {x hi : Operand} (ho : o.op = .slice 9 x none (some hi) none) {s u : ByteArray} {k : Nat} (hx : a.eval x = .string s) (h1 : a.eval hi = .int .i64 (k : Int)) (he : s.extract 0 k = u) (hk : k ≤ s.size) (w : World) : (execOp a.eval o).run Tryz.prog w = .ok (.value (.string u)) w := by
 subst he
 simp [execOp, ho, hx, h1, Instr.sliceAt, Sem.run_bind, run_underlying Tryz.underlying9, run_strTo s k hk w]
theorem ex_strFrom {x lo : Operand} (ho : o.op = .slice 9 x (some lo) none none) {s u : ByteArray} {k : Nat} (hx : a.eval x = .string s) (h1 : a.eval lo = .int .i64 (k : Int)) (he : s.extract k s.size = u) (hk : k ≤ s.size) (w : World) : (execOp a.eval o).run Tryz.prog w = .ok (.value (.string u)) w := by
 subst he
 simp [execOp, ho, hx, h1, Instr.sliceAt, Sem.run_bind, run_underlying Tryz.underlying9, run_strFrom s k hk w]
end
attribute [local irreducible] digsOf numB symZ segNext strB
set_option maxRecDepth 20000 in
set_option maxHeartbeats 8000000 in
theorem refTok_any (g gs : Nat) (tA tB : List Value) (hA : tA.length = 17) (hB : tB.length = 17) (oA : tA.toArray.all (·.oneCell') = true) (oB : tB.toArray.all (·.oneCell') = true) (T1 T2 : List Tok) (D : List Bool) (hDl : D.length ≤ 1000000000000) (W0 : World)
 (HS1 : ∀ W B, Ext W0 W → B.length ≤ 1000000000000 → Calls Tryz.prog 173 #[.agg tA.toArray, .string (strB B)] W fun e w' => e = .returned (.tuple #[.int .i64 (symZ T1 B 0).1, .string (if (symZ T1 B 0).2.2 = 0 then strB (B.drop (symZ T1 B 0).2.1) else ⟨#[]⟩), .int .i64 (symZ T1 B 0).2.2]) ∧ Ext W w')
 (HS2 : ∀ W B, Ext W0 W → B.length ≤ 1000000000000 → Calls Tryz.prog 173 #[.agg tB.toArray, .string (strB B)] W fun e w' => e = .returned (.tuple #[.int .i64 (symZ T2 B 0).1, .string (if (symZ T2 B 0).2.2 = 0 then strB (B.drop (symZ T2 B 0).2.1) else ⟨#[]⟩), .int .i64 (symZ T2 B 0).2.2]) ∧ Ext W w')
 (hT1 : ∀ t ∈ T1, 0 ≤ t.1 ∧ t.1 ≤ 255) (hT2 : ∀ t ∈ T2, 0 ≤ t.1 ∧ t.1 ≤ 255) (b : Bool) (p : Nat) (w : World) (h : RefIn g gs (tA ++ tB).toArray D W0 w p) :
 Calls Tryz.prog 172 #[.bool b, .pointer (some ⟨g, 0, none⟩), .pointer (some ⟨gs, 0, none⟩)] w fun e w' =>
  e = .returned (.tuple #[.agg (tokv (segNext false T1 T2 D b p).1).toArray, .int .i64 (segNext false T1 T2 D b p).2.1]) ∧ RefIn g gs (tA ++ tB).toArray D W0 w' (segNext false T1 T2 D b p).2.2 ∧ Upd (fun x => x = gs) w w' := by
 have HRU := hid_ (fun W g (hb : Blk W g 44 (tA ++ tB).toArray) => range_two hA hb)
 generalize (tA ++ tB).toArray = tt at *
 obtain ⟨T, hT⟩ : ∃ T, T = if b then T1 else T2 := ⟨_, rfl⟩
 have hrng : ∀ t ∈ T, 0 ≤ t.1 ∧ t.1 ≤ 255 := by rw [hT]; cases b <;> assumption
 have hsm := symZ_mem (D := D) (p := p) hrng
 have hle := symZ_le (T := T) h.le
 obtain ⟨hdr, hpp⟩ := symZ_drop T D p h.le
 have HSY : Hid (∀ W, Ext W0 W → Calls Tryz.prog 173 #[.agg (if b then tA else tB).toArray, .string (strB (D.drop p))] W fun e w' => e = .returned (.tuple #[.int .i64 (symZ T D p).1, .string (if (symZ T D p).2.2 = 0 then strB (D.drop (symZ T D p).2.1) else ⟨#[]⟩), .int .i64 (symZ T D p).2.2]) ∧ Ext W w') := hid_ (fun W hW => by
  have h1 : Calls Tryz.prog 173 #[.agg (if b then tA else tB).toArray, .string (strB (D.drop p))] W fun e w' => e = .returned (.tuple #[.int .i64 (symZ T (D.drop p) 0).1, .string (if (symZ T (D.drop p) 0).2.2 = 0 then strB ((D.drop p).drop (symZ T (D.drop p) 0).2.1) else ⟨#[]⟩), .int .i64 (symZ T (D.drop p) 0).2.2]) ∧ Ext W w' := by
   rw [hT]
   cases b with
   | true => exact HS1 W (D.drop p) hW (by rw [List.length_drop]; omega)
   | false => exact HS2 W (D.drop p) hW (by rw [List.length_drop]; omega)
  rw [hdr] at h1
  dsimp only at h1
  rw [List.drop_drop, show p + ((symZ T D p).2.1 - p) = (symZ T D p).2.1 by omega] at h1
  exact h1)
 have hgw := h.gt.lt
 have hsw := h.st.lt
 have HX := hid_ (fun W (hx : Ext w W) => h.ext hx)
 have HN1 : Hid ((symZ T D p).2.2 ≠ 0 → segNext false T1 T2 D b p = ((0, 0, 0), (symZ T D p).2.2, p)) := hid_ (fun h0 => by rw [hT] at h0 ⊢; rw [segNext_sym h0]; rfl)
 have HN2 : Hid (∀ s p' wd, symZ T D p = (s, p', 0) → (if b then s else s % 16) = wd → (12 < wd ∨ (b = false ∧ 11 < wd)) → segNext false T1 T2 D b p = ((0, 0, 0), 4, p)) := hid_ (fun s p' wd h1 h2 h3 => by rw [hT] at h1; rw [segNext_wide h1 h2 h3]; rfl)
 have HN3 : Hid (∀ s p' wd, symZ T D p = (s, p', 0) → (if b then s else s % 16) = wd → ¬ (12 < wd ∨ (b = false ∧ 11 < wd)) → D.length < p' + wd.toNat → segNext false T1 T2 D b p = ((0, 0, 0), 3, p)) := hid_ (fun s p' wd h1 h2 h3 h4 => by rw [hT] at h1; rw [segNext_short h1 h2 h3 h4]; rfl)
 have HN4 : Hid (∀ s p' wd, symZ T D p = (s, p', 0) → (if b then s else s % 16) = wd → ¬ (12 < wd ∨ (b = false ∧ 11 < wd)) → ¬ D.length < p' + wd.toNat → segNext false T1 T2 D b p = ((s, wd, ((numB ((D.drop p').take wd.toNat) : Nat) : Int)), 0, p' + wd.toNat)) := hid_ (fun s p' wd h1 h2 h3 h4 => by rw [hT] at h1; rw [segNext_good h1 h2 h3 h4])
 obtain ⟨R, hR⟩ : ∃ R, segNext false T1 T2 D b p = R := ⟨_, rfl⟩
 rw [hR] at HN1 HN2 HN3 HN4 ⊢
 obtain ⟨sz, hsz⟩ : ∃ sz, symZ T D p = sz := ⟨_, rfl⟩
 rw [hsz] at HSY HN1 HN2 HN3 HN4 hsm hle hpp
 obtain ⟨s, p', er⟩ := sz
 dsimp only at hsm HSY HN1 hle hpp
 obtain ⟨sn, hsn⟩ : ∃ q : Nat, s = (q : Int) := ⟨s.toNat, by omega⟩
 subst hsn
 have hsn2 : sn ≤ 255 := by omega
 have HZT : Hid (Tryz.prog.built 149 [] = some (tokv (0, 0, 0)).toArray) := hid_ (by kernel_rfl)
 have hz17 : Hid ((ints (List.replicate 16 0) ++ [Value.slice none 0 0]).toArray.size = 17) := hid_ (by simp [ints])
 have HLA := hid_ hA
 have HLB := hid_ hB
 have HTA : Hid (tA.toArray.size = 17) := hid_ (by simpa using hA)
 have HTB : Hid (tB.toArray.size = 17) := hid_ (by simpa using hB)
 have HOA := hid_ oA
 have HOB := hid_ oB
 have hh := h
 clear HS1 HS2 hT1 hT2 hT hrng hdr hR hsz hsm hA hB oA oB h
 by_cases h0 : er = 0
 ·subst h0
  obtain ⟨m16, hm16⟩ : ∃ m, sn % 16 = m := ⟨_, rfl⟩
  have H29 := hid_ (run_rem16 sn hsn2)
  rw [hm16] at H29
  have hm2 : m16 < 16 := by omega
  have hmI : (sn : Int) % 16 = (m16 : Int) := by omega
  rw [if_pos rfl] at HSY
  clear HN1 hm16
  cases b with
  | true =>
    rw [if_pos rfl] at HSY
    have HN2 := hid_ (fun h => HN2.out (sn : Int) p' (sn : Int) rfl rfl h)
    have HN3 := hid_ (fun h => HN3.out (sn : Int) p' (sn : Int) rfl rfl h)
    have HN4 := hid_ (fun h => HN4.out (sn : Int) p' (sn : Int) rfl rfl h)
    rw [Int.toNat_natCast] at HN3 HN4
    clear hmI
    by_cases hw : 12 < sn
    ·have H34 : Hid (decide ((12 : Int) < (sn : Int)) = true) := hid_ (by rw [decide_eq_true]; omega)
     rw [HN2.out (.inl (by omega))]
     clear HN2 HN3 HN4
     go_enter Tryz.func172, Tryz.ntmps172
     go_wp2_with (first
      | ((with_reducible apply gS 4); refine wAlo' rfl (some 4) rfl 149 rfl _ zeroTok ?_; intro w1 g4 hb1 hx1 hg1; have hr1 := HRU.out _ _ (hh.gt.ext hx1))
      | ((with_reducible apply gS 13); refine wpList_load_mid rfl 42 (.tmp 12) rfl g 17 rfl tB _ hr1.2 Tryz.underlying42 rfl (by rw [HLB.out]; exact sizeTbl) ?_)
      | ((with_reducible apply gS 6); refine wAlo' rfl (some 6) rfl 42 rfl _ zeroTbl ?_; intro w2 g6 hb2 hx2 hg2)
      | ((with_reducible apply gT 6 13); refine wStB rfl 42 (.tmp 6) (.tmp 13) rfl _ _ rfl rfl hb2 17 sizeTbl HTB.out hz17.out HOB.out ?_; intro w3 hb3 hg3; have hx3 : Ext w1 w3 := hx2.grown hg3 hg2; have hx03 := hx1.trans hx3; have hr3 := HRU.out _ _ (hh.gt.ext hx03))
      | ((with_reducible apply gS 16); refine wpList_load_mid rfl 42 (.tmp 15) rfl g 0 rfl tA _ hr3.1 Tryz.underlying42 rfl (by rw [HLA.out]; exact sizeTbl) ?_)
      | ((with_reducible apply gT 6 16); refine wStB rfl 42 (.tmp 6) (.tmp 16) rfl _ _ rfl rfl hb3 17 sizeTbl HTA.out HTB.out HOA.out ?_; intro w4 hb4 hg4; have hx4 : Ext w1 w4 := hx3.grown hg4 hg2; have hx04 := hx1.trans hx4; have hI4 := HX.out _ hx04; have hb14 := hb1.ext hx4; have q4 : w4.cell? ⟨gs, 0, none⟩ = some (.string (strB (D.drop p))) := hI4.st.cell 0)
      | ((with_reducible apply gS 18); refine wLdB rfl 42 (.tmp 6) rfl g6 rfl hb4 _ Tryz.underlying42 rfl 17 sizeTbl HTA.out ?_)
      | (go_at_call 173; (with_reducible refine (HSY.out _ hI4.b).mono ?_); rintro e w5 ⟨rfl, hx5⟩; have hx05 := hx04.trans hx5; have hI5 := HX.out _ hx05; have hb15 := hb14.ext hx5; have hs05 := hx05.size)
      | ((with_reducible apply gS 29); refine wl_run rfl (.int .i64 (m16 : Int)) (ex_bin rfl rfl rfl H29.out) ?_)
      | ((with_reducible apply gS 33); refine wl_run rfl (.bool true) (ex_gtr rfl rfl rfl H34.out) ?_)
      | ((with_reducible apply gS 42); refine wpList_build0 rfl 149 rfl _ HZT.out ?_)
      | ((with_reducible apply gT 4 42); refine wStB rfl 149 (.tmp 4) (.tmp 42) rfl _ _ rfl rfl hb15 3 sizeTok rfl rfl (tok_oneA _) ?_; intro w9 hb9 hg9))
     have hx9 : Ext w w9 := hx05.grown hg9 hg1
     refine ret_cell_tmp rfl rfl _ rfl hb9 _ Tryz.underlying149 rfl 3 sizeTok rfl ⟨rfl, HX.out _ hx9, upd_of_ext hx9⟩
    ·have H34 : Hid (decide ((12 : Int) < (sn : Int)) = false) := hid_ (by rw [decide_eq_false]; omega)
     have hnb : ¬ ((12 : Int) < (sn : Int) ∨ (true = false ∧ (11 : Int) < (sn : Int))) := fun k => k.elim (fun k => by omega) (fun k => by cases k.1)
     have hq0 : ∃ Q, D.drop p' = Q := ⟨_, rfl⟩
     obtain ⟨Q, hQ⟩ := hq0
     have hql : Q.length + p' = D.length := by rw [← hQ, List.length_drop]; omega
     obtain ⟨q, hq⟩ : ∃ q, Q.length = q := ⟨_, rfl⟩
     rw [hQ] at HSY
     have HQ := hid_ (show (strB Q).size = q by rw [strB_size, hq])
     by_cases hl : D.length < p' + sn
     ·rw [HN3.out hnb hl]
      clear HN2 HN3 HN4 hnb
      have H46 : Hid (decide ((q : Int) < (sn : Int)) = true) := hid_ (by rw [decide_eq_true]; omega)
      clear hQ hql hq
      go_enter Tryz.func172, Tryz.ntmps172
      go_wp2_with (first
       | ((with_reducible apply gS 4); refine wAlo' rfl (some 4) rfl 149 rfl _ zeroTok ?_; intro w1 g4 hb1 hx1 hg1; have hr1 := HRU.out _ _ (hh.gt.ext hx1))
       | ((with_reducible apply gS 13); refine wpList_load_mid rfl 42 (.tmp 12) rfl g 17 rfl tB _ hr1.2 Tryz.underlying42 rfl (by rw [HLB.out]; exact sizeTbl) ?_)
       | ((with_reducible apply gS 6); refine wAlo' rfl (some 6) rfl 42 rfl _ zeroTbl ?_; intro w2 g6 hb2 hx2 hg2)
       | ((with_reducible apply gT 6 13); refine wStB rfl 42 (.tmp 6) (.tmp 13) rfl _ _ rfl rfl hb2 17 sizeTbl HTB.out hz17.out HOB.out ?_; intro w3 hb3 hg3; have hx3 : Ext w1 w3 := hx2.grown hg3 hg2; have hx03 := hx1.trans hx3; have hr3 := HRU.out _ _ (hh.gt.ext hx03))
       | ((with_reducible apply gS 16); refine wpList_load_mid rfl 42 (.tmp 15) rfl g 0 rfl tA _ hr3.1 Tryz.underlying42 rfl (by rw [HLA.out]; exact sizeTbl) ?_)
       | ((with_reducible apply gT 6 16); refine wStB rfl 42 (.tmp 6) (.tmp 16) rfl _ _ rfl rfl hb3 17 sizeTbl HTA.out HTB.out HOA.out ?_; intro w4 hb4 hg4; have hx4 : Ext w1 w4 := hx3.grown hg4 hg2; have hx04 := hx1.trans hx4; have hI4 := HX.out _ hx04; have hb14 := hb1.ext hx4; have q4 : w4.cell? ⟨gs, 0, none⟩ = some (.string (strB (D.drop p))) := hI4.st.cell 0)
       | ((with_reducible apply gS 18); refine wLdB rfl 42 (.tmp 6) rfl g6 rfl hb4 _ Tryz.underlying42 rfl 17 sizeTbl HTA.out ?_)
       | (go_at_call 173; (with_reducible refine (HSY.out _ hI4.b).mono ?_); rintro e w5 ⟨rfl, hx5⟩; have hx05 := hx04.trans hx5; have hI5 := HX.out _ hx05; have hb15 := hb14.ext hx5; have hs05 := hx05.size)
       | ((with_reducible apply gS 29); refine wl_run rfl (.int .i64 (m16 : Int)) (ex_bin rfl rfl rfl H29.out) ?_)
       | ((with_reducible apply gS 33); refine wl_run rfl (.bool false) (ex_gtr rfl rfl rfl H34.out) ?_)
       | ((with_reducible apply gS 44); refine wl_run rfl (.int .i64 (q : Int)) (ex_lenS rfl rfl HQ.out) ?_)
       | ((with_reducible apply gS 46); refine wl_run rfl (.bool true) (ex_lss rfl rfl rfl H46.out) ?_)
       | ((with_reducible apply gS 47); refine wpList_build0 rfl 149 rfl _ HZT.out ?_)
       | ((with_reducible apply gT 4 47); refine wStB rfl 149 (.tmp 4) (.tmp 47) rfl _ _ rfl rfl hb15 3 sizeTok rfl rfl (tok_oneA _) ?_; intro w9 hb9 hg9))
      have hx9 : Ext w w9 := hx05.grown hg9 hg1
      refine ret_cell_tmp rfl rfl _ rfl hb9 _ Tryz.underlying149 rfl 3 sizeTok rfl ⟨rfl, HX.out _ hx9, upd_of_ext hx9⟩
     ·rw [HN4.out hnb hl]
      clear HN2 HN3 HN4 hnb
      have H46 : Hid (decide ((q : Int) < (sn : Int)) = false) := hid_ (by rw [decide_eq_false]; omega)
      have HLE := hid_ (show p' + sn ≤ D.length by omega)
      have HWQ := hid_ (show sn ≤ (strB Q).size by rw [strB_size]; omega)
      have HE1 := hid_ (show (strB Q).extract 0 sn = strB (Q.take sn) by rw [strB_extract _ _ _ (Nat.zero_le _), List.drop_zero, Nat.sub_zero])
      have HE2 := hid_ (show (strB Q).extract sn (strB Q).size = strB (D.drop (p' + sn)) by rw [strB_extract _ _ _ (by rw [strB_size]; omega), List.take_of_length_le (by rw [List.length_drop, strB_size]; omega), ← hQ, List.drop_drop])
      rw [hQ]
      have HFB := hid_ (fun W => fromBin_any (Q.take sn) W (by rw [List.length_take]; omega))
      generalize numB (Q.take sn) = nb at *
      clear hQ hql hq
      go_enter Tryz.func172, Tryz.ntmps172
      go_wp2_with (first
       | ((with_reducible apply gS 4); refine wAlo' rfl (some 4) rfl 149 rfl _ zeroTok ?_; intro w1 g4 hb1 hx1 hg1; have hr1 := HRU.out _ _ (hh.gt.ext hx1))
       | ((with_reducible apply gS 13); refine wpList_load_mid rfl 42 (.tmp 12) rfl g 17 rfl tB _ hr1.2 Tryz.underlying42 rfl (by rw [HLB.out]; exact sizeTbl) ?_)
       | ((with_reducible apply gS 6); refine wAlo' rfl (some 6) rfl 42 rfl _ zeroTbl ?_; intro w2 g6 hb2 hx2 hg2)
       | ((with_reducible apply gT 6 13); refine wStB rfl 42 (.tmp 6) (.tmp 13) rfl _ _ rfl rfl hb2 17 sizeTbl HTB.out hz17.out HOB.out ?_; intro w3 hb3 hg3; have hx3 : Ext w1 w3 := hx2.grown hg3 hg2; have hx03 := hx1.trans hx3; have hr3 := HRU.out _ _ (hh.gt.ext hx03))
       | ((with_reducible apply gS 16); refine wpList_load_mid rfl 42 (.tmp 15) rfl g 0 rfl tA _ hr3.1 Tryz.underlying42 rfl (by rw [HLA.out]; exact sizeTbl) ?_)
       | ((with_reducible apply gT 6 16); refine wStB rfl 42 (.tmp 6) (.tmp 16) rfl _ _ rfl rfl hb3 17 sizeTbl HTA.out HTB.out HOA.out ?_; intro w4 hb4 hg4; have hx4 : Ext w1 w4 := hx3.grown hg4 hg2; have hx04 := hx1.trans hx4; have hI4 := HX.out _ hx04; have hb14 := hb1.ext hx4; have q4 : w4.cell? ⟨gs, 0, none⟩ = some (.string (strB (D.drop p))) := hI4.st.cell 0)
       | ((with_reducible apply gS 18); refine wLdB rfl 42 (.tmp 6) rfl g6 rfl hb4 _ Tryz.underlying42 rfl 17 sizeTbl HTA.out ?_)
       | (go_at_call 173; (with_reducible refine (HSY.out _ hI4.b).mono ?_); rintro e w5 ⟨rfl, hx5⟩; have hx05 := hx04.trans hx5; have hI5 := HX.out _ hx05; have hb15 := hb14.ext hx5; have hs05 := hx05.size)
       | ((with_reducible apply gS 29); refine wl_run rfl (.int .i64 (m16 : Int)) (ex_bin rfl rfl rfl H29.out) ?_)
       | ((with_reducible apply gS 33); refine wl_run rfl (.bool false) (ex_gtr rfl rfl rfl H34.out) ?_)
       | ((with_reducible apply gS 44); refine wl_run rfl (.int .i64 (q : Int)) (ex_lenS rfl rfl HQ.out) ?_)
       | ((with_reducible apply gS 46); refine wl_run rfl (.bool false) (ex_lss rfl rfl rfl H46.out) ?_)
       | ((with_reducible apply gS 50); refine wl_run rfl (.string (strB (Q.take sn))) (ex_strTo rfl rfl rfl HE1.out HWQ.out) ?_)
       | (go_at_call 174; (with_reducible refine (HFB.out _).mono ?_); rintro e w6 ⟨rfl, hx6⟩; have hx06 := hx05.trans hx6; have hI6 := HX.out _ hx06; have hb16 := hb15.ext hx6; have q6 : w6.cell? ⟨gs, 0, none⟩ = some (.string (strB (D.drop p))) := hI6.st.cell 0; have z6 := hI6.st.frozen 0; have hs7 : Blk (w6.setCell ⟨gs, 0, none⟩ (.string (strB (D.drop (p' + sn))))) gs 9 #[.string (strB (D.drop (p' + sn)))] := hI6.st.set_ 0 (.string (strB (D.drop (p' + sn)))); have hu7 : Upd (fun x => x = gs) w6 (w6.setCell ⟨gs, 0, none⟩ (.string (strB (D.drop (p' + sn))))) := Upd.setCell (S := fun x => x = gs) (Upd.refl _ _) (p := ⟨gs, 0, none⟩) rfl _; have hI7 := hI6.moved hu7 hs7 HLE.out; have hb17 := hu7.blk hb16 (fun k => by omega))
       | ((with_reducible apply gS 54); refine wl_run rfl (.string (strB (D.drop (p' + sn)))) (ex_strFrom rfl rfl rfl HE2.out HWQ.out) ?_)
       | ((with_reducible apply gS 58); refine wl_run rfl (.agg #[.int .i64 (sn : Int), .int .i64 (sn : Int), .int .i64 (nb : Int)]) (ex_build3 rfl rfl rfl rfl (builtTok3 _ _ _)) ?_)
       | ((with_reducible apply gT 4 58); refine wStB rfl 149 (.tmp 4) (.tmp 58) rfl _ _ rfl rfl hb17 3 sizeTok rfl rfl (tok_oneA (_, _, _)) ?_; intro w9 hb9 hg9))
      have hu9 : Upd (fun x => w.heap.size ≤ x) (w6.setCell ⟨gs, 0, none⟩ (.string (strB (D.drop (p' + sn))))) w9 := upd_sub (upd_grown hg9) (fun x k => by have := Option.some.inj k; omega)
      refine ret_cell_tmp rfl rfl _ rfl hb9 _ Tryz.underlying149 rfl 3 sizeTok rfl ⟨rfl, hI7.keep hgw hsw hu9, ((upd_of_ext (S := fun x => x = gs) hx06).trans hu7 (fun x k => .inl k)).trans hu9 (fun x k => .inr k)⟩
  | false =>
    rw [if_neg (by simp)] at HSY
    have HN2 := hid_ (fun h => HN2.out (sn : Int) p' (m16 : Int) rfl hmI h)
    have HN3 := hid_ (fun h => HN3.out (sn : Int) p' (m16 : Int) rfl hmI h)
    have HN4 := hid_ (fun h => HN4.out (sn : Int) p' (m16 : Int) rfl hmI h)
    rw [Int.toNat_natCast] at HN3 HN4
    clear hmI
    by_cases hw : 12 < m16
    ·have H34 : Hid (decide ((12 : Int) < (m16 : Int)) = true) := hid_ (by rw [decide_eq_true]; omega)
     rw [HN2.out (.inl (by omega))]
     clear HN2 HN3 HN4
     go_enter Tryz.func172, Tryz.ntmps172
     go_wp2_with (first
      | ((with_reducible apply gS 4); refine wAlo' rfl (some 4) rfl 149 rfl _ zeroTok ?_; intro w1 g4 hb1 hx1 hg1; have hr1 := HRU.out _ _ (hh.gt.ext hx1))
      | ((with_reducible apply gS 13); refine wpList_load_mid rfl 42 (.tmp 12) rfl g 17 rfl tB _ hr1.2 Tryz.underlying42 rfl (by rw [HLB.out]; exact sizeTbl) ?_)
      | ((with_reducible apply gS 6); refine wAlo' rfl (some 6) rfl 42 rfl _ zeroTbl ?_; intro w2 g6 hb2 hx2 hg2)
      | ((with_reducible apply gT 6 13); refine wStB rfl 42 (.tmp 6) (.tmp 13) rfl _ _ rfl rfl hb2 17 sizeTbl HTB.out hz17.out HOB.out ?_; intro w3 hb3 hg3; have hx3 : Ext w1 w3 := hx2.grown hg3 hg2; have hx03 := hx1.trans hx3; have hr3 := HRU.out _ _ (hh.gt.ext hx03); have hI4 := HX.out _ hx03; have hb14 := hb1.ext hx3; have q4 : w3.cell? ⟨gs, 0, none⟩ = some (.string (strB (D.drop p))) := hI4.st.cell 0; have hx04 := hx03)
      | ((with_reducible apply gS 18); refine wLdB rfl 42 (.tmp 6) rfl g6 rfl hb3 _ Tryz.underlying42 rfl 17 sizeTbl HTB.out ?_)
      | (go_at_call 173; (with_reducible refine (HSY.out _ hI4.b).mono ?_); rintro e w5 ⟨rfl, hx5⟩; have hx05 := hx04.trans hx5; have hI5 := HX.out _ hx05; have hb15 := hb14.ext hx5; have hs05 := hx05.size)
      | ((with_reducible apply gS 29); refine wl_run rfl (.int .i64 (m16 : Int)) (ex_bin rfl rfl rfl H29.out) ?_)
      | ((with_reducible apply gS 33); refine wl_run rfl (.bool true) (ex_gtr rfl rfl rfl H34.out) ?_)
      | ((with_reducible apply gS 42); refine wpList_build0 rfl 149 rfl _ HZT.out ?_)
      | ((with_reducible apply gT 4 42); refine wStB rfl 149 (.tmp 4) (.tmp 42) rfl _ _ rfl rfl hb15 3 sizeTok rfl rfl (tok_oneA _) ?_; intro w9 hb9 hg9))
     have hx9 : Ext w w9 := hx05.grown hg9 hg1
     refine ret_cell_tmp rfl rfl _ rfl hb9 _ Tryz.underlying149 rfl 3 sizeTok rfl ⟨rfl, HX.out _ hx9, upd_of_ext hx9⟩
    ·have H34 : Hid (decide ((12 : Int) < (m16 : Int)) = false) := hid_ (by rw [decide_eq_false]; omega)
     by_cases hw2 : 11 < m16
     ·have H41 : Hid (decide ((11 : Int) < (m16 : Int)) = true) := hid_ (by rw [decide_eq_true]; omega)
      rw [HN2.out (.inr ⟨rfl, by omega⟩)]
      clear HN2 HN3 HN4
      go_enter Tryz.func172, Tryz.ntmps172
      go_wp2_with (first
       | ((with_reducible apply gS 4); refine wAlo' rfl (some 4) rfl 149 rfl _ zeroTok ?_; intro w1 g4 hb1 hx1 hg1; have hr1 := HRU.out _ _ (hh.gt.ext hx1))
       | ((with_reducible apply gS 13); refine wpList_load_mid rfl 42 (.tmp 12) rfl g 17 rfl tB _ hr1.2 Tryz.underlying42 rfl (by rw [HLB.out]; exact sizeTbl) ?_)
       | ((with_reducible apply gS 6); refine wAlo' rfl (some 6) rfl 42 rfl _ zeroTbl ?_; intro w2 g6 hb2 hx2 hg2)
       | ((with_reducible apply gT 6 13); refine wStB rfl 42 (.tmp 6) (.tmp 13) rfl _ _ rfl rfl hb2 17 sizeTbl HTB.out hz17.out HOB.out ?_; intro w3 hb3 hg3; have hx3 : Ext w1 w3 := hx2.grown hg3 hg2; have hx03 := hx1.trans hx3; have hr3 := HRU.out _ _ (hh.gt.ext hx03); have hI4 := HX.out _ hx03; have hb14 := hb1.ext hx3; have q4 : w3.cell? ⟨gs, 0, none⟩ = some (.string (strB (D.drop p))) := hI4.st.cell 0; have hx04 := hx03)
       | ((with_reducible apply gS 18); refine wLdB rfl 42 (.tmp 6) rfl g6 rfl hb3 _ Tryz.underlying42 rfl 17 sizeTbl HTB.out ?_)
       | (go_at_call 173; (with_reducible refine (HSY.out _ hI4.b).mono ?_); rintro e w5 ⟨rfl, hx5⟩; have hx05 := hx04.trans hx5; have hI5 := HX.out _ hx05; have hb15 := hb14.ext hx5; have hs05 := hx05.size)
       | ((with_reducible apply gS 29); refine wl_run rfl (.int .i64 (m16 : Int)) (ex_bin rfl rfl rfl H29.out) ?_)
       | ((with_reducible apply gS 33); refine wl_run rfl (.bool false) (ex_gtr rfl rfl rfl H34.out) ?_)
       | ((with_reducible apply gS 39); refine wl_run_g (by rfl) (.bool true) (ex_gtr rfl rfl rfl H41.out) ?_)
       | ((with_reducible apply gS 42); refine wpList_build0 rfl 149 rfl _ HZT.out ?_)
       | ((with_reducible apply gT 4 42); refine wStB rfl 149 (.tmp 4) (.tmp 42) rfl _ _ rfl rfl hb15 3 sizeTok rfl rfl (tok_oneA _) ?_; intro w9 hb9 hg9))
      have hx9 : Ext w w9 := hx05.grown hg9 hg1
      refine ret_cell_tmp rfl rfl _ rfl hb9 _ Tryz.underlying149 rfl 3 sizeTok rfl ⟨rfl, HX.out _ hx9, upd_of_ext hx9⟩
     ·have H41 : Hid (decide ((11 : Int) < (m16 : Int)) = false) := hid_ (by rw [decide_eq_false]; omega)
      have hnb : ¬ ((12 : Int) < (m16 : Int) ∨ (false = false ∧ (11 : Int) < (m16 : Int))) := by rintro (k | ⟨-, k⟩) <;> omega
      have hq0 : ∃ Q, D.drop p' = Q := ⟨_, rfl⟩
      obtain ⟨Q, hQ⟩ := hq0
      have hql : Q.length + p' = D.length := by rw [← hQ, List.length_drop]; omega
      obtain ⟨q, hq⟩ : ∃ q, Q.length = q := ⟨_, rfl⟩
      rw [hQ] at HSY
      have HQ := hid_ (show (strB Q).size = q by rw [strB_size, hq])
      by_cases hl : D.length < p' + m16
      ·rw [HN3.out hnb hl]
       clear HN2 HN3 HN4 hnb
       have H46 : Hid (decide ((q : Int) < (m16 : Int)) = true) := hid_ (by rw [decide_eq_true]; omega)
       clear hQ hql hq
       go_enter Tryz.func172, Tryz.ntmps172
       go_wp2_with (first
        | ((with_reducible apply gS 4); refine wAlo' rfl (some 4) rfl 149 rfl _ zeroTok ?_; intro w1 g4 hb1 hx1 hg1; have hr1 := HRU.out _ _ (hh.gt.ext hx1))
        | ((with_reducible apply gS 13); refine wpList_load_mid rfl 42 (.tmp 12) rfl g 17 rfl tB _ hr1.2 Tryz.underlying42 rfl (by rw [HLB.out]; exact sizeTbl) ?_)
        | ((with_reducible apply gS 6); refine wAlo' rfl (some 6) rfl 42 rfl _ zeroTbl ?_; intro w2 g6 hb2 hx2 hg2)
        | ((with_reducible apply gT 6 13); refine wStB rfl 42 (.tmp 6) (.tmp 13) rfl _ _ rfl rfl hb2 17 sizeTbl HTB.out hz17.out HOB.out ?_; intro w3 hb3 hg3; have hx3 : Ext w1 w3 := hx2.grown hg3 hg2; have hx03 := hx1.trans hx3; have hr3 := HRU.out _ _ (hh.gt.ext hx03); have hI4 := HX.out _ hx03; have hb14 := hb1.ext hx3; have q4 : w3.cell? ⟨gs, 0, none⟩ = some (.string (strB (D.drop p))) := hI4.st.cell 0; have hx04 := hx03)
        | ((with_reducible apply gS 18); refine wLdB rfl 42 (.tmp 6) rfl g6 rfl hb3 _ Tryz.underlying42 rfl 17 sizeTbl HTB.out ?_)
        | (go_at_call 173; (with_reducible refine (HSY.out _ hI4.b).mono ?_); rintro e w5 ⟨rfl, hx5⟩; have hx05 := hx04.trans hx5; have hI5 := HX.out _ hx05; have hb15 := hb14.ext hx5; have hs05 := hx05.size)
        | ((with_reducible apply gS 29); refine wl_run rfl (.int .i64 (m16 : Int)) (ex_bin rfl rfl rfl H29.out) ?_)
        | ((with_reducible apply gS 33); refine wl_run rfl (.bool false) (ex_gtr rfl rfl rfl H34.out) ?_)
        | ((with_reducible apply gS 39); refine wl_run_g (by rfl) (.bool false) (ex_gtr rfl rfl rfl H41.out) ?_)
        | ((with_reducible apply gS 44); refine wl_run rfl (.int .i64 (q : Int)) (ex_lenS rfl rfl HQ.out) ?_)
        | ((with_reducible apply gS 46); refine wl_run rfl (.bool true) (ex_lss rfl rfl rfl H46.out) ?_)
        | ((with_reducible apply gS 47); refine wpList_build0 rfl 149 rfl _ HZT.out ?_)
        | ((with_reducible apply gT 4 47); refine wStB rfl 149 (.tmp 4) (.tmp 47) rfl _ _ rfl rfl hb15 3 sizeTok rfl rfl (tok_oneA _) ?_; intro w9 hb9 hg9))
       have hx9 : Ext w w9 := hx05.grown hg9 hg1
       refine ret_cell_tmp rfl rfl _ rfl hb9 _ Tryz.underlying149 rfl 3 sizeTok rfl ⟨rfl, HX.out _ hx9, upd_of_ext hx9⟩
      ·rw [HN4.out hnb hl]
       clear HN2 HN3 HN4 hnb
       have H46 : Hid (decide ((q : Int) < (m16 : Int)) = false) := hid_ (by rw [decide_eq_false]; omega)
       have HLE := hid_ (show p' + m16 ≤ D.length by omega)
       have HWQ := hid_ (show m16 ≤ (strB Q).size by rw [strB_size]; omega)
       have HE1 := hid_ (show (strB Q).extract 0 m16 = strB (Q.take m16) by rw [strB_extract _ _ _ (Nat.zero_le _), List.drop_zero, Nat.sub_zero])
       have HE2 := hid_ (show (strB Q).extract m16 (strB Q).size = strB (D.drop (p' + m16)) by rw [strB_extract _ _ _ (by rw [strB_size]; omega), List.take_of_length_le (by rw [List.length_drop, strB_size]; omega), ← hQ, List.drop_drop])
       rw [hQ]
       have HFB := hid_ (fun W => fromBin_any (Q.take m16) W (by rw [List.length_take]; omega))
       generalize numB (Q.take m16) = nb at *
       clear hQ hql hq
       go_enter Tryz.func172, Tryz.ntmps172
       go_wp2_with (first
        | ((with_reducible apply gS 4); refine wAlo' rfl (some 4) rfl 149 rfl _ zeroTok ?_; intro w1 g4 hb1 hx1 hg1; have hr1 := HRU.out _ _ (hh.gt.ext hx1))
        | ((with_reducible apply gS 13); refine wpList_load_mid rfl 42 (.tmp 12) rfl g 17 rfl tB _ hr1.2 Tryz.underlying42 rfl (by rw [HLB.out]; exact sizeTbl) ?_)
        | ((with_reducible apply gS 6); refine wAlo' rfl (some 6) rfl 42 rfl _ zeroTbl ?_; intro w2 g6 hb2 hx2 hg2)
        | ((with_reducible apply gT 6 13); refine wStB rfl 42 (.tmp 6) (.tmp 13) rfl _ _ rfl rfl hb2 17 sizeTbl HTB.out hz17.out HOB.out ?_; intro w3 hb3 hg3; have hx3 : Ext w1 w3 := hx2.grown hg3 hg2; have hx03 := hx1.trans hx3; have hr3 := HRU.out _ _ (hh.gt.ext hx03); have hI4 := HX.out _ hx03; have hb14 := hb1.ext hx3; have q4 : w3.cell? ⟨gs, 0, none⟩ = some (.string (strB (D.drop p))) := hI4.st.cell 0; have hx04 := hx03)
        | ((with_reducible apply gS 18); refine wLdB rfl 42 (.tmp 6) rfl g6 rfl hb3 _ Tryz.underlying42 rfl 17 sizeTbl HTB.out ?_)
        | (go_at_call 173; (with_reducible refine (HSY.out _ hI4.b).mono ?_); rintro e w5 ⟨rfl, hx5⟩; have hx05 := hx04.trans hx5; have hI5 := HX.out _ hx05; have hb15 := hb14.ext hx5; have hs05 := hx05.size)
        | ((with_reducible apply gS 29); refine wl_run rfl (.int .i64 (m16 : Int)) (ex_bin rfl rfl rfl H29.out) ?_)
        | ((with_reducible apply gS 33); refine wl_run rfl (.bool false) (ex_gtr rfl rfl rfl H34.out) ?_)
        | ((with_reducible apply gS 39); refine wl_run_g (by rfl) (.bool false) (ex_gtr rfl rfl rfl H41.out) ?_)
        | ((with_reducible apply gS 44); refine wl_run rfl (.int .i64 (q : Int)) (ex_lenS rfl rfl HQ.out) ?_)
        | ((with_reducible apply gS 46); refine wl_run rfl (.bool false) (ex_lss rfl rfl rfl H46.out) ?_)
        | ((with_reducible apply gS 50); refine wl_run rfl (.string (strB (Q.take m16))) (ex_strTo rfl rfl rfl HE1.out HWQ.out) ?_)
        | (go_at_call 174; (with_reducible refine (HFB.out _).mono ?_); rintro e w6 ⟨rfl, hx6⟩; have hx06 := hx05.trans hx6; have hI6 := HX.out _ hx06; have hb16 := hb15.ext hx6; have q6 : w6.cell? ⟨gs, 0, none⟩ = some (.string (strB (D.drop p))) := hI6.st.cell 0; have z6 := hI6.st.frozen 0; have hs7 : Blk (w6.setCell ⟨gs, 0, none⟩ (.string (strB (D.drop (p' + m16))))) gs 9 #[.string (strB (D.drop (p' + m16)))] := hI6.st.set_ 0 (.string (strB (D.drop (p' + m16)))); have hu7 : Upd (fun x => x = gs) w6 (w6.setCell ⟨gs, 0, none⟩ (.string (strB (D.drop (p' + m16))))) := Upd.setCell (S := fun x => x = gs) (Upd.refl _ _) (p := ⟨gs, 0, none⟩) rfl _; have hI7 := hI6.moved hu7 hs7 HLE.out; have hb17 := hu7.blk hb16 (fun k => by omega))
        | ((with_reducible apply gS 54); refine wl_run rfl (.string (strB (D.drop (p' + m16)))) (ex_strFrom rfl rfl rfl HE2.out HWQ.out) ?_)
        | ((with_reducible apply gS 58); refine wl_run rfl (.agg #[.int .i64 (sn : Int), .int .i64 (m16 : Int), .int .i64 (nb : Int)]) (ex_build3 rfl rfl rfl rfl (builtTok3 _ _ _)) ?_)
        | ((with_reducible apply gT 4 58); refine wStB rfl 149 (.tmp 4) (.tmp 58) rfl _ _ rfl rfl hb17 3 sizeTok rfl rfl (tok_oneA (_, _, _)) ?_; intro w9 hb9 hg9))
       have hu9 : Upd (fun x => w.heap.size ≤ x) (w6.setCell ⟨gs, 0, none⟩ (.string (strB (D.drop (p' + m16))))) w9 := upd_sub (upd_grown hg9) (fun x k => by have := Option.some.inj k; omega)
       refine ret_cell_tmp rfl rfl _ rfl hb9 _ Tryz.underlying149 rfl 3 sizeTok rfl ⟨rfl, hI7.keep hgw hsw hu9, ((upd_of_ext (S := fun x => x = gs) hx06).trans hu7 (fun x k => .inl k)).trans hu9 (fun x k => .inr k)⟩
 ·have hbx : (er != 0) = true := by simpa using h0
  rw [HN1.out h0]
  rw [if_neg h0] at HSY
  clear HN1 HN2 HN3 HN4 h0
  cases b with
  | true =>
    rw [if_pos rfl] at HSY
    go_enter Tryz.func172, Tryz.ntmps172
    go_wp2_with (first
     | ((with_reducible apply gS 4); refine wAlo' rfl (some 4) rfl 149 rfl _ zeroTok ?_; intro w1 g4 hb1 hx1 hg1; have hr1 := HRU.out _ _ (hh.gt.ext hx1))
     | ((with_reducible apply gS 13); refine wpList_load_mid rfl 42 (.tmp 12) rfl g 17 rfl tB _ hr1.2 Tryz.underlying42 rfl (by rw [HLB.out]; exact sizeTbl) ?_)
     | ((with_reducible apply gS 6); refine wAlo' rfl (some 6) rfl 42 rfl _ zeroTbl ?_; intro w2 g6 hb2 hx2 hg2)
     | ((with_reducible apply gT 6 13); refine wStB rfl 42 (.tmp 6) (.tmp 13) rfl _ _ rfl rfl hb2 17 sizeTbl HTB.out hz17.out HOB.out ?_; intro w3 hb3 hg3; have hx3 : Ext w1 w3 := hx2.grown hg3 hg2; have hx03 := hx1.trans hx3; have hr3 := HRU.out _ _ (hh.gt.ext hx03))
     | ((with_reducible apply gS 16); refine wpList_load_mid rfl 42 (.tmp 15) rfl g 0 rfl tA _ hr3.1 Tryz.underlying42 rfl (by rw [HLA.out]; exact sizeTbl) ?_)
     | ((with_reducible apply gT 6 16); refine wStB rfl 42 (.tmp 6) (.tmp 16) rfl _ _ rfl rfl hb3 17 sizeTbl HTA.out HTB.out HOA.out ?_; intro w4 hb4 hg4; have hx4 : Ext w1 w4 := hx3.grown hg4 hg2; have hx04 := hx1.trans hx4; have hI4 := HX.out _ hx04; have hb14 := hb1.ext hx4; have q4 : w4.cell? ⟨gs, 0, none⟩ = some (.string (strB (D.drop p))) := hI4.st.cell 0)
     | ((with_reducible apply gS 18); refine wLdB rfl 42 (.tmp 6) rfl g6 rfl hb4 _ Tryz.underlying42 rfl 17 sizeTbl HTA.out ?_)
     | (go_at_call 173; (with_reducible refine (HSY.out _ hI4.b).mono ?_); rintro e w5 ⟨rfl, hx5⟩; have hx05 := hx04.trans hx5; have hI5 := HX.out _ hx05; have hb15 := hb14.ext hx5; have hs05 := hx05.size)
     | ((with_reducible apply gS 26); refine wpList_build0 rfl 149 rfl _ HZT.out ?_)
     | ((with_reducible apply gT 4 26); refine wStB rfl 149 (.tmp 4) (.tmp 26) rfl _ _ rfl rfl hb15 3 sizeTok rfl rfl (tok_oneA _) ?_; intro w9 hb9 hg9))
    have hx9 : Ext w w9 := hx05.grown hg9 hg1
    refine ret_cell_tmp rfl rfl _ rfl hb9 _ Tryz.underlying149 rfl 3 sizeTok rfl ⟨rfl, HX.out _ hx9, upd_of_ext hx9⟩
  | false =>
    rw [if_neg (by simp)] at HSY
    go_enter Tryz.func172, Tryz.ntmps172
    go_wp2_with (first
     | ((with_reducible apply gS 4); refine wAlo' rfl (some 4) rfl 149 rfl _ zeroTok ?_; intro w1 g4 hb1 hx1 hg1; have hr1 := HRU.out _ _ (hh.gt.ext hx1))
     | ((with_reducible apply gS 13); refine wpList_load_mid rfl 42 (.tmp 12) rfl g 17 rfl tB _ hr1.2 Tryz.underlying42 rfl (by rw [HLB.out]; exact sizeTbl) ?_)
     | ((with_reducible apply gS 6); refine wAlo' rfl (some 6) rfl 42 rfl _ zeroTbl ?_; intro w2 g6 hb2 hx2 hg2)
     | ((with_reducible apply gT 6 13); refine wStB rfl 42 (.tmp 6) (.tmp 13) rfl _ _ rfl rfl hb2 17 sizeTbl HTB.out hz17.out HOB.out ?_; intro w3 hb3 hg3; have hx3 : Ext w1 w3 := hx2.grown hg3 hg2; have hx03 := hx1.trans hx3; have hr3 := HRU.out _ _ (hh.gt.ext hx03); have hI4 := HX.out _ hx03; have hb14 := hb1.ext hx3; have q4 : w3.cell? ⟨gs, 0, none⟩ = some (.string (strB (D.drop p))) := hI4.st.cell 0; have hx04 := hx03)
     | ((with_reducible apply gS 18); refine wLdB rfl 42 (.tmp 6) rfl g6 rfl hb3 _ Tryz.underlying42 rfl 17 sizeTbl HTB.out ?_)
     | (go_at_call 173; (with_reducible refine (HSY.out _ hI4.b).mono ?_); rintro e w5 ⟨rfl, hx5⟩; have hx05 := hx04.trans hx5; have hI5 := HX.out _ hx05; have hb15 := hb14.ext hx5; have hs05 := hx05.size)
     | ((with_reducible apply gS 26); refine wpList_build0 rfl 149 rfl _ HZT.out ?_)
     | ((with_reducible apply gT 4 26); refine wStB rfl 149 (.tmp 4) (.tmp 26) rfl _ _ rfl rfl hb15 3 sizeTok rfl rfl (tok_oneA _) ?_; intro w9 hb9 hg9))
    have hx9 : Ext w w9 := hx05.grown hg9 hg1
    refine ret_cell_tmp rfl rfl _ rfl hb9 _ Tryz.underlying149 rfl 3 sizeTok rfl ⟨rfl, HX.out _ hx9, upd_of_ext hx9⟩
end
section
theorem plZ_ne {y : Nat} {r : List Nat} (h : y ≠ 255) : plZ (y :: r) = (plZ r).map (y :: ·) := by
 cases r with
 | nil => simp [plZ, h]
 | cons z r => rw [plZ, if_neg h]
theorem plZ_two (z : Nat) (r : List Nat) : plZ (255 :: z :: r) = if z = 0 then (plZ r).map (255 :: ·) else none := by rw [plZ, if_pos rfl]
theorem plZ_last : plZ [255] = none := by rw [plZ, if_pos rfl]
attribute [local irreducible] bytesV plZ
set_option maxRecDepth 20000 in
set_option maxHeartbeats 1000000 in
theorem rplain_any (A : Option Addr) (n c : Nat) (bs : List Nat) (w : World) (hs : SL w 1 (.slice A n c) n (bytesV bs)) (hlt : ∀ b ∈ bs, b < 256) (hn : n ≤ 1000000000) :
 Calls Tryz.prog 169 #[.slice A n c] w (PlIs (plZ bs) w) := by
 have HL := hid_ (sl_len hs).1
 have hc := (sl_len hs).2
 obtain ⟨R, hR⟩ : ∃ R, plZ bs = R := ⟨_, rfl⟩
 have HLT := hid_ hlt
 rw [hR]
 have HR0 : Hid ((plZ (bs.drop 0)).map ([] ++ ·) = R) := hid_ (by rw [List.drop_zero, ← hR]; simp)
 clear hR hlt
 have hcc : c ≤ 9223372036854775807 := by
  obtain ⟨A', c', e, -, h2, -, -⟩ := hs
  injection e with e1 e2 e3
  omega
 go_enter Tryz.func169, Tryz.ntmps169
 go_wp2_with fail
 go_loopw [4, 5] (fun v iv wr => ∃ (k dl : Nat) (D : List Nat), k ≤ n ∧ dl ≤ k ∧ iv = .int .i64 (k : Int) ∧ Hid (D.length = dl) ∧ OwnV wr w.heap.size 5 1 v dl (bytesV D) ∧ Ext w wr ∧ Hid ((plZ (bs.drop k)).map (D ++ ·) = R)) (fun _ i _ => n - (intOf i).toNat)
 case atStart => exact ⟨0, 0, [], by omega, by omega, rfl, hid_ rfl, (by unfold bytesV; exact OwnV.nil _ _ _ _), Ext.refl _, HR0⟩
 case round =>
  clear HR0
  obtain ⟨k, dl, D, hk, hdl, rfl, HD, ⟨B0, d0, rfl, hown⟩, hx, HR⟩ := hrel
  by_cases hlt : k < n
  ·obtain ⟨ad, u, rfl, hab, hxk, hcell⟩ := hs.at1 hlt
   obtain ⟨hkl, rfl⟩ := bytes_at hxk
   have hy8 : bs[k] < 256 := HLT.out _ (List.getElem_mem hkl)
   have HCK := hid_ (fun W (h : Ext w W) => (h.cell (p := ad.add k) (by rw [block_of_add]; exact hab)).trans hcell)
   have HR1 : Hid ((plZ (bs[k] :: bs.drop (k + 1))).map (D ++ ·) = R) := hid_ (by rw [← HR.out, ← List.drop_eq_getElem_cons hkl])
   obtain ⟨k1, hk1⟩ : ∃ r, k + 1 = r := ⟨_, rfl⟩
   rw [hk1] at HR1
   have hcell0 := HCK.out _ hx
   clear hxk HR hcell
   generalize bs[k] = y at *
   by_cases hy : y = 255
   ·have hyb : ((y : Int) == 255) = true := by simp; omega
    by_cases hl1 : k1 < n
    ·have hkl2 : k1 < bs.length := by rw [HL.out]; exact hl1
     obtain ⟨ad2, u2, e2, hab2, hxk2, hcell2⟩ := hs.at1 hl1
     injection e2 with e2
     subst e2
     obtain ⟨_, rfl⟩ := bytes_at hxk2
     have hz8 : bs[k1] < 256 := HLT.out _ (List.getElem_mem hkl2)
     have HCK2 := hid_ (fun W (h : Ext w W) => (h.cell (p := ad.add k1) (by rw [block_of_add]; exact hab2)).trans hcell2)
     obtain ⟨k2, hk2⟩ : ∃ r, k1 + 1 = r := ⟨_, rfl⟩
     have HR2 : Hid ((if bs[k1] = 0 then (plZ (bs.drop k2)).map (255 :: ·) else none).map (D ++ ·) = R) := hid_ (by
      have h := HR1.out
      rw [hy, List.drop_eq_getElem_cons hkl2, plZ_two, hk2] at h
      exact h)
     clear hxk2 hcell2 HR1
     generalize bs[k1] = z at *
     by_cases hz : z = 0
     ·have HR3 : Hid ((plZ (bs.drop k2)).map ((D ++ [y]) ++ ·) = R) := hid_ (by rw [← HR2.out, if_pos hz, hy]; simp [Option.map_map, Function.comp_def])
      have hzb : ((z : Int) != 0) = false := by simp; omega
      clear hy hz HR2
      go_wp2_with (first
       | ((with_reducible apply gS 17); refine wpList_lit1B rfl _ rfl (some 17) rfl y rfl ?_; intro w3 g3 hb3 hx3 hg3; have ho3 := own_ext0' hown hx3; have hx3' := hx.trans hx3)
       | ((with_reducible apply gS 18); at_builtin; refine wApf elt_by rfl (.tmp 12) (.tmp 17) rfl w.heap.size (.slice B0 dl d0) dl (bytesV D) rfl ho3 _ 1 (bytesV [y]) rfl (byte_row rfl hb3) (byteOne _) (by omega) (by omega) hx3'.size ?_; intro A4 c4 w4 ho4 hgr4 hor4; have hx4 := hx3'.grown' hgr4 (fun b hb => (ho3.lt b hb).1); have hcell4 := HCK.out _ hx4; have hcell5 := HCK2.out _ hx4))
      go_roundw
      case rel =>
       refine ⟨k2, dl + 1, D ++ [y], by omega, by omega, by go_num, hid_ (by simp [HD.out]), ⟨A4, c4, rfl, ?_⟩, hx4, HR3⟩
       rw [bytesV_app']
       exact ho4
      case measure => simp [intOf]; omega
     ·have HRE : Hid (R = none) := hid_ (by rw [← HR2.out, if_neg hz]; rfl)
      have hzb : ((z : Int) != 0) = true := by simp; omega
      clear hy hz HR2
      go_wp2_with (first
       | ((with_reducible apply gS 17); refine wpList_lit1B rfl _ rfl (some 17) rfl y rfl ?_; intro w3 g3 hb3 hx3 hg3; have ho3 := own_ext0' hown hx3; have hx3' := hx.trans hx3)
       | ((with_reducible apply gS 18); at_builtin; refine wApf elt_by rfl (.tmp 12) (.tmp 17) rfl w.heap.size (.slice B0 dl d0) dl (bytesV D) rfl ho3 _ 1 (bytesV [y]) rfl (byte_row rfl hb3) (byteOne _) (by omega) (by omega) hx3'.size ?_; intro A4 c4 w4 ho4 hgr4 hor4; have hx4 := hx3'.grown' hgr4 (fun b hb => (ho3.lt b hb).1); have hcell4 := HCK.out _ hx4; have hcell5 := HCK2.out _ hx4))
      all_goals refine bodyPost_ret (results_tmp2 rfl _ _ _) rfl ?_
      all_goals rw [HRE.out]
      all_goals exact ⟨rfl, hx4⟩
    ·have HRE : Hid (R = none) := hid_ (by rw [← HR1.out, List.drop_eq_nil_of_le (by rw [HL.out]; omega), hy, plZ_last]; rfl)
     clear hy HR1
     go_wp2_with (first
      | ((with_reducible apply gS 17); refine wpList_lit1B rfl _ rfl (some 17) rfl y rfl ?_; intro w3 g3 hb3 hx3 hg3; have ho3 := own_ext0' hown hx3; have hx3' := hx.trans hx3)
      | ((with_reducible apply gS 18); at_builtin; refine wApf elt_by rfl (.tmp 12) (.tmp 17) rfl w.heap.size (.slice B0 dl d0) dl (bytesV D) rfl ho3 _ 1 (bytesV [y]) rfl (byte_row rfl hb3) (byteOne _) (by omega) (by omega) hx3'.size ?_; intro A4 c4 w4 ho4 hgr4 hor4; have hx4 := hx3'.grown' hgr4 (fun b hb => (ho3.lt b hb).1); have hcell4 := HCK.out _ hx4))
     refine bodyPost_ret (results_tmp2 rfl _ _ _) rfl ?_
     rw [HRE.out]
     exact ⟨rfl, hx4⟩
   ·have hyb : ((y : Int) == 255) = false := by simp; omega
    have hyI : ¬ ((y : Int) = 255) := by omega
    have HR3 : Hid ((plZ (bs.drop k1)).map ((D ++ [y]) ++ ·) = R) := hid_ (by rw [← HR1.out, plZ_ne hy]; simp [Option.map_map, Function.comp_def])
    clear hy HR1
    go_wp2_with (first
     | ((with_reducible apply gS 17); refine wpList_lit1B rfl _ rfl (some 17) rfl y rfl ?_; intro w3 g3 hb3 hx3 hg3; have ho3 := own_ext0' hown hx3; have hx3' := hx.trans hx3)
     | ((with_reducible apply gS 18); at_builtin; refine wApf elt_by rfl (.tmp 12) (.tmp 17) rfl w.heap.size (.slice B0 dl d0) dl (bytesV D) rfl ho3 _ 1 (bytesV [y]) rfl (byte_row rfl hb3) (byteOne _) (by omega) (by omega) hx3'.size ?_; intro A4 c4 w4 ho4 hgr4 hor4; have hx4 := hx3'.grown' hgr4 (fun b hb => (ho3.lt b hb).1); have hcell4 := HCK.out _ hx4))
    go_roundw
    case rel =>
     refine ⟨k1, dl + 1, D ++ [y], by omega, by omega, by go_num, hid_ (by simp [HD.out]), ⟨A4, c4, rfl, ?_⟩, hx4, HR3⟩
     rw [bytesV_app']
     exact ho4
    case measure => simp [intOf]; omega
  ·have hkn : bs.drop k = [] := List.drop_eq_nil_of_le (by rw [HL.out]; omega)
   have HRE : Hid (R = some D) := hid_ (by rw [← HR.out, hkn]; unfold plZ; simp)
   clear hkn HR
   go_wp2_with fail
   refine bodyPost_ret (results_tmp2 rfl _ _ _) rfl ?_
   rw [HRE.out]
   obtain ⟨h1, h2⟩ := own_out' hown
   exact ⟨B0, dl, d0, rfl, HD.out, h1, own_none hown, hx⟩
end
end Go.Proofs.YtkggcjdlpendfaaGreatDoor
