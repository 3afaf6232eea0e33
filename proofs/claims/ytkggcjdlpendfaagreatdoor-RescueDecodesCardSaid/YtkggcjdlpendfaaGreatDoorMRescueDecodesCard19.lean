/- Contracts for the law RescueDecodesCard, part 19: what the functions that it reaches answer, for all arguments that the theorems name. -/
import Derived.Test.YtkggcjdlpendfaaGreatDoorMRescueDecodesCard15
import Derived.Test.YtkggcjdlpendfaaGreatDoorMRescueDecodesCard16
import Derived.Test.YtkggcjdlpendfaaGreatDoorMRescueDecodesCard17
import Derived.Test.YtkggcjdlpendfaaGreatDoorMRescueDecodesCard14
import Derived.Test.YtkggcjdlpendfaaGreatDoorMRescueDecodesCard9
import Derived.Test.YtkggcjdlpendfaaGreatDoorMRescueDecodesCard11
import Derived.Test.YtkggcjdlpendfaaGreatDoorMRescueDecodesCard3
import Derived.Test.YtkggcjdlpendfaaGreatDoorMRescueDecodesCard2
import Derived.Lib.CountLaws
import Derived.Deep.Slices
import Derived.OwnWalk
import Derived.Test.YtkggcjdlpendfaaGreatDoorMRescueDecodesCard1
import Derived.Test.YtkggcjdlpendfaaGreatDoorMRescueDecodesCard4
namespace Go.Proofs.YtkggcjdlpendfaaGreatDoor
set_option linter.unusedVariables false
set_option linter.unusedSimpArgs false
open Go.RowKit
def blkAt (Z : List Int) (k : Nat) : List Int := (Z.drop (k * 64)).take 64
def befAt (Z : List Int) (k : Nat) : Int := if k = 0 then 0 else (blkAt Z (k - 1)).getD 0 0
def toksAt (Z : List Int) (k : Nat) : List Tok := tokensZ (befAt Z k) (zto (blkAt Z k))
def flagT (T : List Tok) : List (Tok × Bool) := T.zipIdx.map fun p => (p.1, p.2 == 0)
def flagsAt (Z : List Int) (n k : Nat) : List (Tok × Bool) := (List.range' k (n - k)).flatMap fun i => flagT (toksAt Z i)
section
variable {σ : Type}
def eatGo (step : σ → Tok → Bool → Int × σ) : List (Tok × Bool) → σ → Int × σ
 | [], s => (0, s)
 | (t, b) :: r, s => if (step s t b).1 ≠ 0 then step s t b else eatGo step r (step s t b).2
def eachZ (step : σ → Tok → Bool → Int × σ) (n : Nat) (Z : List Int) (s : σ) : Int × σ :=
 if 400 < n then (2, s) else if allIn Z (-2047) 2047 = false then (1, s) else eatGo step (flagsAt Z n 0) s
end
section
section
variable {σ : Type} {C : σ → Prop}
variable {f : FuncId} {cap : Array Value} {Inv : World → σ → (Nat → Prop) → Prop} {step : σ → Tok → Bool → Int × σ}
theorem bv_out (zs : List Int) : (ints zs).toArray = bv zs := rfl
attribute [local irreducible] tokensZ zto bv toks accT eatGo flagsAt toksAt befAt blkAt
end
end
section
open Go.RowKit Go.Maps Go.WideMaps
set_option maxRecDepth 20000 in
set_option maxHeartbeats 1000000 in
theorem newCoder_any (cs xs : List Int) (sl : Value) (w : World) (hl : cs.length = 16) (hs : SL w 1 sl xs.length (ints xs)) (h : checkZ cs xs = 0) :
 Calls Tryz.prog 184 #[.agg (tblv cs sl)] w fun e w' => ∃ gc, e = .returned (.pointer (some ⟨gc, 0, none⟩)) ∧ CoderS w' gc (zipC (codesW cs 16) xs) ∧ Ext w w' := by
 obtain ⟨q1, q2, q3, q4, q5, q6⟩ := checkZ_zero h
 have HW := hid_ (fun W h => words_any cs xs sl W hl h q1 q4 q2 q3)
 have hts := hid_ (tblv_size cs sl hl)
 have hlen : (codesW cs 16).length = xs.length := by have := codesW_len cs (fun z hz => (allIn_iff.1 q1 z hz).1) 16 (by omega); omega
 have hZl : (zipC (codesW cs 16) xs).length = xs.length := by rw [zipC_len _ _ (by omega), hlen]
 have HAP := hid_ (zipC_apart cs xs q6 hlen)
 have HFIT := hid_ (codesW_fit cs q4 hl 16 (by omega))
 have HIN := hid_ (allIn_iff.1 q5)
 have HAT := hid_ (fun k (h1 : k < (codesW cs 16).length) (h2 : k < xs.length) hk => zipC_at (codesW cs 16) xs k h1 h2 hk)
 have hmm := @run_makeMap Tryz.prog
 generalize tblv cs sl = tv at *
 have HBD : Hid (∀ k (hk : k < (zipC (codesW cs 16) xs).length), 0 ≤ ((zipC (codesW cs 16) xs)[k]).1 ∧ ((zipC (codesW cs 16) xs)[k]).1 ≤ 255 ∧ okP ((zipC (codesW cs 16) xs)[k]).2) := hid_ (fun k hk => by
  have hk1 : k < (codesW cs 16).length := by omega
  have hk2 : k < xs.length := by omega
  rw [HAT.out k hk1 hk2 hk]
  have h1 := HIN.out _ (List.getElem_mem hk2)
  obtain ⟨f1, f2, f3⟩ := HFIT.out _ (List.getElem_mem hk1)
  have h2 := Nat.pow_le_pow_right (n := 2) (by omega) f2
  refine ⟨h1.1, h1.2, ⟨by simp only; omega, by simp only; omega⟩, by simp only; omega, by simp only; omega⟩)
 clear HAT HIN HFIT hlen
 generalize zipC (codesW cs 16) xs = Z at *
 have HZL := hid_ hZl
 clear h q1 q2 q4 q5 q6 hZl
 go_enter Tryz.func184, Tryz.ntmps184
 go_wp2_with (first
  | (refine wBox rfl 42 (.tmp 0) rfl tv rfl ?_; intro w1 g hb1 hx1 hg; have hs1 := hs.ext hx1)
  | (refine wBox rfl 241 (.tmp 8) rfl _ rfl ?_; intro w3 gc hbc hx3 hgc; have hb3 := ((hb1.alloc (.map #[] 0)).alloc (.map #[] 0)).ext hx3; have hs3 := (hs1.ext (((Ext.refl w1).alloc (.map #[] 0)).alloc (.map #[] 0))).ext hx3)
  | (refine wLdB rfl 42 (.tmp 1) rfl _ rfl hb3 _ Tryz.underlying42 rfl 17 sizeTbl hts.out ?_)
  | (go_at_call 106; (with_reducible refine (HW.out _ hs3).mono ?_); rintro e w4 ⟨A, c, rfl, hsl, hfr, hx4⟩))
 have hm1 : MapI Tryz.prog 3 w4 w1.heap.size 0 (symF []) := (((MapG.made w1).alloc (.map #[] 0)).ext hx3).ext hx4
 have hm2 : MapP w4 (w1.heap.size + 1) 0 (codeF []) := by
  have := (((MapG.made (P := Tryz.prog) (k := 260) (kl := klP) (ok := okP) (w1.alloc (.map #[] 0))).ext hx3).ext hx4)
  rwa [World.size_alloc] at this
 have hbc4 := hbc.ext hx4
 have hxw : Ext w w4 := ((((hx1.alloc (.map #[] 0)).alloc (.map #[] 0)).trans hx3).trans hx4)
 have hz1 := hx1.size
 have hz3 := hx3.size
 simp only [World.size_alloc] at hz3 hgc
 have hz4 := hx4.size
 have hc1 : xs.length ≤ c ∧ c ≤ 9223372036854775807 := by obtain ⟨A', c', e, h1, h2, -⟩ := hsl; injection e with e1 e2 e3; subst e3; exact ⟨h1, h2⟩
 obtain ⟨hc1, hc2⟩ := hc1
 generalize hM : w1.heap.size = M at *
 clear hM hmm hb1 hb3 hs1 hs3 hbc hx1 hx3 hx4 hs
 go_loopw [13] (fun i wr => ∃ k : Nat, k ≤ xs.length ∧ i = .int .i64 (k : Int) ∧ MapI Tryz.prog 3 wr M k (symF (Z.take k)) ∧ MapP wr (M + 1) k (codeF (Z.take k)) ∧ Upd (fun b => b = M ∨ b = M + 1) w4 wr) (fun i _ => xs.length - (intOf i).toNat)
 case atStart => exact ⟨0, by omega, rfl, hm1, hm2, Upd.refl _ _⟩
 case round =>
  clear hm1 hm2
  obtain ⟨k, hk, rfl, hm1, hm2, hu⟩ := hrel
  by_cases hlt : k < xs.length
  ·have hkZ : k < Z.length := by have := HZL.out; omega
   have hslr := hsl.upd hu (fun ad h => by have := hfr ad h; omega)
   obtain ⟨ad, rfl, hbl, h1, h2, h3⟩ := hslr.tok hlt HZL.out hkZ
   have hbcr := hu.blk hbc4 (by omega)
   obtain ⟨a1, a2⟩ := HAP.out k hkZ
   obtain ⟨b1, b2, b3⟩ := HBD.out k hkZ
   have HS1 := hid_ (symF_snoc_same (Z.take k) Z[k] a1)
   have HS2 := hid_ (fun s => symF_snoc_other (Z.take k) Z[k] s)
   have HC1 := hid_ (codeF_snoc_same (Z.take k) Z[k] a2)
   have HC2 := hid_ (fun p => codeF_snoc_other (Z.take k) Z[k] p)
   have HTS := hid_ (toks_take_succ Z k hkZ)
   generalize Z[k] = t at *
   obtain ⟨t1, t2, t3⟩ := t
   simp only at b1 b2
   clear a1 a2
   have hkey1 := hid_ (keyOf_i64 (P := Tryz.prog) Tryz.underlying3 (a := t1) (by omega) (by omega))
   have hkey2 := hid_ (keyOf_P (t2, t3) b3)
   have HB3 := hid_ b3
   clear b3
   simp only at h1 h2 h3
   go_wp2_with fail
   have hn := Blk.new wr 94 #[.int .i64 t1, .int .i64 t2, .int .i64 t3]
   have hxa := Ext.alloc (Ext.refl wr) (.cells #[.int .i64 t1, .int .i64 t2, .int .i64 t3] 94)
   have hm1a := hm1.alloc (.cells #[.int .i64 t1, .int .i64 t2, .int .i64 t3] 94)
   have hm2a := hm2.alloc (.cells #[.int .i64 t1, .int .i64 t2, .int .i64 t3] 94)
   have hbca := hbcr.ext hxa
   have hua := hu.trans (Upd.of_ext (S := fun _ => False) hxa) (fun x hx => hx.elim)
   have hnz : wr.heap.size ≠ M ∧ wr.heap.size ≠ M + 1 := by have := hm1.lt; have := hm2.lt; omega
   generalize hw2 : wr.alloc (.cells #[.int .i64 t1, .int .i64 t2, .int .i64 t3] 94) = w5 at *
   generalize wr.heap.size = gn at *
   clear hw2 h1 h2 h3 hxa hm1 hm2 hbcr hu hslr
   have hcv : ∀ W, Blk W gn 94 #[.int .i64 t1, .int .i64 t2, .int .i64 t3] → W.cell? ⟨gn, 0, none⟩ = some (.int .i64 t1) ∧ W.cell? ⟨gn, 1, none⟩ = some (.int .i64 t2) ∧ W.cell? ⟨gn, 2, none⟩ = some (.int .i64 t3) := fun W h => ⟨h.cell 0, h.cell 1, h.cell 2⟩
   have hcc : ∀ W, Blk W gc 241 #[.map (some M), .map (some (M + 1))] → W.cell? ⟨gc, 0, none⟩ = some (.map (some M)) ∧ W.cell? ⟨gc, 1, none⟩ = some (.map (some (M + 1))) := fun W h => ⟨h.cell 0, h.cell 1⟩
   have HCV := hid_ hcv
   have HCC := hid_ hcc
   clear hcv hcc
   obtain ⟨n1, n2, n3⟩ := HCV.out _ hn
   obtain ⟨g1, g2⟩ := HCC.out _ hbca
   refine wp_region_lxt later_eq 7 (by kernel_rfl) (by kernel_rfl) ?_
   simp only [List.take_succ_cons, List.take_zero]
   iterate 7 (refine lx_ex (by rfl) ?_; apply Exists.intro; refine ⟨fun w hw => ?_, ?_⟩; · (subst hw; go_simp; with_reducible rfl)
              simp only [Act.put, sA, sB, sC])
   refine lx_nil ?_
   rintro w6 rfl
   try simp only [List.drop_succ_cons, List.drop_zero]
   clear n1 n2 n3 g1 g2
   have hm1d := hm1a.ext (w' := w5.drew) (Ext.refl w5).drew
   have hm2d := hm2a.ext (w' := w5.drew) (Ext.refl w5).drew
   go_wp2_with (at_mapUpdate; refine wpList_upd_g (by rfl) _ _ _ 238 94 rfl keyed_int Tryz.underlying238 rfl hm1d (by omega) _ rfl _ rfl t1 hkey1.out (symF (Z.take k ++ [(t1, t2, t3)])) HS1.out (fun j _ hj => HS2.out j (fun e => hj (by rw [e]))) (fun j _ hj => by injection hj) ?_; intro w7 hm7 hg7)
   have hn7 := hn.drew.grown hg7 (by simp; omega)
   have hb7 := hbca.drew.grown hg7 (by simp; omega)
   have hm27 := hm2d.grown hg7 (by simp)
   have hu7 := hua.drew.grown hg7 (fun b hb => .inl (by injection hb with hb; exact .inl hb.symm))
   obtain ⟨n1, n2, n3⟩ := HCV.out _ hn7
   obtain ⟨g1, g2⟩ := HCC.out _ hb7
   clear hm1d hm2d hm1a hm2a hua hg7
   simp only [Act.put, sA, sB, sC]
   refine wp_region_lxt later_eq 11 (by kernel_rfl) (by kernel_rfl) ?_
   simp only [List.take_succ_cons, List.take_zero]
   iterate 11 (refine lx_ex (by rfl) ?_; apply Exists.intro; refine ⟨fun w hw => ?_, ?_⟩; · (subst hw; go_simp; with_reducible rfl)
               simp only [Act.put, sA, sB, sC])
   refine lx_nil ?_
   rintro w8 rfl
   try simp only [List.drop_succ_cons, List.drop_zero]
   clear n1 n2 n3 g1 g2
   have hm2e := hm27.ext (w' := w7.drew) (Ext.refl w7).drew
   have hm1e := hm7.ext (w' := w7.drew) (Ext.refl w7).drew
   go_wp2_with (at_mapUpdate; refine wpList_upd_g (by rfl) _ _ _ 239 3 rfl keyed_pair Tryz.underlying239 rfl hm2e (by omega) _ rfl _ rfl (t2, t3) hkey2.out (codeF (Z.take k ++ [(t1, t2, t3)])) HC1.out (fun j hj0 hj => HC2.out j (fun e => hj (by rw [e]))) (fun j hj0 hj => klP_inj hj0 HB3.out hj) ?_; intro w9 hm9 hg9)
   go_roundw
   case rel =>
    refine ⟨k + 1, by omega, by go_num, ?_, ?_, ?_⟩
    ·rw [HTS.out]; exact hm1e.grown hg9 (by simp)
    ·rw [HTS.out]; exact hm9
    ·exact hu7.drew.grown hg9 (fun b hb => .inl (by injection hb with hb; exact .inr hb.symm))
   case measure => simp [intOf]; omega
  ·have ek : k = xs.length := by omega
   have HF : Hid (Z.take k = Z) := hid_ (List.take_of_length_le (by have := HZL.out; omega))
   rw [HF.out] at hm1 hm2
   go_wp2_with fail
   go_ret
   exact ⟨gc, rfl, ⟨M, M + 1, k, hu.blk hbc4 (by omega), hm1, hm2⟩, hu.ext hxw (by omega)⟩
end
section
theorem own_blkE {w : World} {g base size n : Nat} {T e : TypeId} {cs : Array Value} {v : Value} {xs : List Value} (h : Blk w g T cs) (ho : w.ownsRow base e size v n xs) (hne : T ≠ e) : some g ≠ v.ownBlock := by
 obtain ⟨-, hh⟩ := ho
 rcases hh with ⟨rfl, -⟩ | ⟨k, cap, cur, rfl, -, hg, -⟩
 ·simp [Value.ownBlock]
 ·intro e1
  have : g = k := by simpa [Value.ownBlock] using e1
  subst this
  exact (h.ne_ (g' := g) (cs' := cur) hg hne) rfl
theorem run_loadK (W : World) (p q : Addr) (h : W.cell? p = some (.pointer (some q))) : (Instr.loadAt 197 (.pointer (some p))).run Tryz.prog W = .ok (.pointer (some q)) W := by
 go_simp
section
variable {o : Oper} {a : Act}
theorem ex_loadK {x : Operand} (ho : o.op = .load 197 x) {p q : Addr} (hx : a.eval x = .pointer (some p)) {w : World} (h : w.cell? p = some (.pointer (some q))) : (execOp a.eval o).run Tryz.prog w = .ok (.value (.pointer (some q))) w := by
 simp [execOp, ho, hx, run_loadK w p q h]
end
theorem of_any (gk gc1 gc2 : Nat) (b : Bool) (w : World) (h : Blk w gk 236 #[.pointer (some ⟨gc1, 0, none⟩), .pointer (some ⟨gc2, 0, none⟩)]) :
 Calls Tryz.prog 154 #[.pointer (some ⟨gk, 0, none⟩), .bool b] w fun e w' => e = .returned (.pointer (some ⟨if b then gc1 else gc2, 0, none⟩)) ∧ w = w' := by
 have c0 : w.cell? ⟨gk, 0, none⟩ = some (.pointer (some ⟨gc1, 0, none⟩)) := h.cell 0
 have c1 : w.cell? ⟨gk, 1, none⟩ = some (.pointer (some ⟨gc2, 0, none⟩)) := h.cell 1
 cases b with
 | true =>
   go_enter Tryz.func154, Tryz.ntmps154
   go_wp2_with fail
   go_ret
   exact ⟨rfl, rfl⟩
 | false =>
   go_enter Tryz.func154, Tryz.ntmps154
   go_wp2_with fail
   go_ret
   exact ⟨rfl, rfl⟩
attribute [local irreducible] bitsT digs
end
section
variable {P : Program} {o : Oper} {a : Act}
theorem ex_build2 {t : TypeId} {x y : Operand} (ho : o.op = .build t #[(0, x), (1, y)]) {vx vy : Value} (hx : a.eval x = vx) (hy : a.eval y = vy) {cs : Array Value} (hf : P.built t [(0, vx), (1, vy)] = some cs) (w : World) : (execOp a.eval o).run P w = .ok (.value (.agg cs)) w := by
 simp only [execOp, ho, Sem.run_bind, run_build w t (#[(0, x), (1, y)].map fun (i, x) => (i, a.eval x)) cs (by simpa [hx, hy] using hf), Result.andThen_ok, Sem.run_pure]
end
theorem builtCoders (p q : Addr) : Tryz.prog.built 236 [(0, .pointer (some p)), (1, .pointer (some q))] = some #[.pointer (some p), .pointer (some q)] := by
 show _ = _
 kernel_rfl
theorem goesNew : Goes Tryz.prog 184 := ⟨_, Tryz.func184, by kernel_rfl, by kernel_rfl⟩
section
variable {P : Program} {o : Oper} {a : Act}
theorem ex_loadMid {ty : TypeId} {x : Operand} (ho : o.op = .load ty x) {b off : Nat} (hx : a.eval x = .pointer (some ⟨b, off, none⟩)) {cs : List Value} {w : World} (hc : w.rangeAt b off cs) {d : TypeDesc} (hu : P.underlying ty = some d) (hd : d.isRow = true) (hi : (P.info? ty).map (·.size) = some cs.length) :
 (execOp a.eval o).run P w = .ok (.value (.agg cs.toArray)) w := by
 simp only [execOp, ho, hx, Sem.run_bind, run_loadAt_mid w b off ty cs d hc hu hd hi, Result.andThen_ok, Sem.run_pure]
end
set_option maxRecDepth 20000 in
set_option maxHeartbeats 4000000 in
theorem made_good (T1 T2 : List Tok) (t1 t2 : List Value) (w : World) (h1 : t1.length = 17) (h2 : t2.length = 17)
 (o1 : t1.toArray.all (·.oneCell') = true) (o2 : t2.toArray.all (·.oneCell') = true)
 (C1 : ∀ W, Ext w W → Calls Tryz.prog 102 #[.agg t1.toArray] W fun e W' => e = .returned (.int .i64 0) ∧ Ext W W')
 (C2 : ∀ W, Ext w W → Calls Tryz.prog 102 #[.agg t2.toArray] W fun e W' => e = .returned (.int .i64 0) ∧ Ext W W')
 (N1 : ∀ W, Ext w W → Calls Tryz.prog 184 #[.agg t1.toArray] W fun e W' => ∃ gc, e = .returned (.pointer (some ⟨gc, 0, none⟩)) ∧ CoderS W' gc T1 ∧ Ext W W')
 (N2 : ∀ W, Ext w W → Calls Tryz.prog 184 #[.agg t2.toArray] W fun e W' => ∃ gc, e = .returned (.pointer (some ⟨gc, 0, none⟩)) ∧ CoderS W' gc T2 ∧ Ext W W') :
 Calls Tryz.prog 152 #[.agg (t1 ++ t2).toArray] w fun e w' => ∃ gk gc1 gc2, e = .returned (.tuple #[.pointer (some ⟨gk, 0, none⟩), .int .i64 0]) ∧ Blk w' gk 236 #[.pointer (some ⟨gc1, 0, none⟩), .pointer (some ⟨gc2, 0, none⟩)] ∧ CoderS w' gc1 T1 ∧ CoderS w' gc2 T2 ∧ Ext w w' := by
 have HN1 := hid_ N1
 have HN2 := hid_ N2
 clear N1 N2
 have hl1 := hid_ h1
 have hl2 := hid_ h2
 have HB2 := hid_ (built2 t1 t2 h1 h2)
 have HRT := hid_ (fun W g (hb : Blk W g 42 (t1 ++ t2).toArray) => range_two h1 hb)
 have HRU := hid_ (fun W g (hb : Blk W g 44 (t1 ++ t2).toArray) => range_two h1 hb)
 have hs1 : Hid (t1.toArray.size = 17) := hid_ (by simpa using h1)
 have hs2 : Hid (t2.toArray.size = 17) := hid_ (by simpa using h2)
 have hz17 : Hid ((ints (List.replicate 16 0) ++ [Value.slice none 0 0]).toArray.size = 17) := hid_ (by simp [ints])
 have hl3 : Hid ((t1 ++ t2).toArray.size = 34) := hid_ (by simp [h1, h2])
 have HO1 := hid_ o1
 have HO2 := hid_ o2
 have HC1 := hid_ C1
 have HC2 := hid_ C2
 clear o1 o2 C1 C2 h1 h2
 go_enter Tryz.func152, Tryz.ntmps152
 go_wp2_with (first
  | ((with_reducible apply gS 1); refine wBox rfl 44 (.tmp 0) rfl (t1 ++ t2).toArray rfl ?_; intro w1 g hb1 hx1 hg; have hr1 := HRU.out _ _ hb1)
  | ((with_reducible apply gS 8); refine wpList_load_mid rfl 42 (.tmp 7) rfl g 0 rfl t1 _ hr1.1 Tryz.underlying42 rfl (by rw [hl1.out]; exact sizeTbl) ?_)
  | ((with_reducible apply gS 10); refine wpList_load_mid rfl 42 (.tmp 9) rfl g 17 rfl t2 _ hr1.2 Tryz.underlying42 rfl (by rw [hl2.out]; exact sizeTbl) ?_)
  | ((with_reducible apply gS 11); refine Go.Great.wpList_buildSliceTo rfl 115 42 2 _ rfl _ rfl (some 11) rfl Tryz.underlying115 _ (by simp [Act.eval]; exact HB2.out) ?_))
 have hbn0 := Blk.new w1 42 (t1 ++ t2).toArray
 have hb3 := hb1.alloc (.cells (t1 ++ t2).toArray 42)
 have hx3 := hx1.alloc (.cells (t1 ++ t2).toArray 42)
 clear hb1 hr1 hx1
 go_loopw [13] (fun i wr => ∃ k : Nat, k ≤ 2 ∧ i = .int .i64 (k : Int) ∧ Blk wr g 44 (t1 ++ t2).toArray ∧ Blk wr w1.heap.size 42 (t1 ++ t2).toArray ∧ Ext w wr) (fun i _ => 2 - (intOf i).toNat)
 case atStart => exact ⟨0, by omega, rfl, hb3, hbn0, hx3⟩
 case round =>
  clear hb3 hbn0 hx3
  obtain ⟨k, hk, rfl, hb, hbn, hx⟩ := hrel
  rcases (by omega : k = 0 ∨ k = 1 ∨ k = 2) with rfl | rfl | rfl
  ·have hr := (HRT.out _ _ hbn).1
   go_wp2_with (first
    | ((with_reducible apply gS 16); refine wpList_load_mid rfl 42 (.tmp 15) rfl _ 0 rfl t1 _ hr Tryz.underlying42 rfl (by rw [hl1.out]; exact sizeTbl) ?_)
    | ((with_reducible apply gS 5); refine wAlo' rfl (some 5) rfl 42 rfl _ zeroTbl ?_; intro w4 ga hba4 hx4 hga)
    | ((with_reducible apply gT 5 16); refine wStB rfl 42 (.tmp 5) (.tmp 16) rfl _ _ rfl rfl hba4 17 sizeTbl hs1.out hz17.out HO1.out ?_; intro w5 hba5 hg5; have hx5 := (hx.trans hx4).grown hg5 (by have := hx.size; omega))
    | ((with_reducible apply gS 17); refine wLdB rfl 42 (.tmp 5) rfl _ rfl hba5 _ Tryz.underlying42 rfl 17 sizeTbl hs1.out ?_)
    | (go_at_call 102; (with_reducible refine (HC1.out _ hx5).mono ?_); rintro e w6 ⟨rfl, hx6⟩))
   go_roundw
   case rel => exact ⟨1, by omega, by go_num, ((hb.ext hx4).grown hg5 (by have := hb.lt; simp; omega)).ext hx6, ((hbn.ext hx4).grown hg5 (by have := hbn.lt; simp; omega)).ext hx6, hx5.trans hx6⟩
   case measure => simp [intOf]
  ·have hr := (HRT.out _ _ hbn).2
   go_wp2_with (first
    | ((with_reducible apply gS 16); refine wpList_load_mid rfl 42 (.tmp 15) rfl _ 17 rfl t2 _ hr Tryz.underlying42 rfl (by rw [hl2.out]; exact sizeTbl) ?_)
    | ((with_reducible apply gS 5); refine wAlo' rfl (some 5) rfl 42 rfl _ zeroTbl ?_; intro w4 ga hba4 hx4 hga)
    | ((with_reducible apply gT 5 16); refine wStB rfl 42 (.tmp 5) (.tmp 16) rfl _ _ rfl rfl hba4 17 sizeTbl hs2.out hz17.out HO2.out ?_; intro w5 hba5 hg5; have hx5 := (hx.trans hx4).grown hg5 (by have := hx.size; omega))
    | ((with_reducible apply gS 17); refine wLdB rfl 42 (.tmp 5) rfl _ rfl hba5 _ Tryz.underlying42 rfl 17 sizeTbl hs2.out ?_)
    | (go_at_call 102; (with_reducible refine (HC2.out _ hx5).mono ?_); rintro e w6 ⟨rfl, hx6⟩))
   go_roundw
   case rel => exact ⟨2, by omega, by go_num, ((hb.ext hx4).grown hg5 (by have := hb.lt; simp; omega)).ext hx6, ((hbn.ext hx4).grown hg5 (by have := hbn.lt; simp; omega)).ext hx6, hx5.trans hx6⟩
   case measure => simp [intOf]
  ·have HRD := hid_ (fun W (h : Ext wr W) => HRU.out W g (hb.ext h))
   clear hb hbn
   go_wp2_with fail
   have hI : Ext wr wr.drew := (Ext.refl wr).drew
   refine wp_region_oi (Ext wr) (by kernel_rfl) ?_
   refine oi_run (k := 0) (by kernel_rfl) rfl (by rfl) (.pointer (some ⟨g, 0, none⟩)) (fun w => by go_simp) hI ?_
   simp only [Act.put, sA, sB, sC]
   refine oi_fix (k := 1) (by kernel_rfl) rfl (by rfl) (.agg t1.toArray) (fun W hW => ex_loadMid rfl rfl (HRD.out W hW).1 Tryz.underlying42 rfl (by rw [hl1.out]; exact sizeTbl)) hI ?_
   simp only [Act.put, sA, sB, sC]
   refine oi_run (k := 3) (by kernel_rfl) rfl (by rfl) (.pointer (some ⟨g, 17, none⟩)) (fun w => by go_simp) hI ?_
   simp only [Act.put, sA, sB, sC]
   refine oi_fix (k := 4) (by kernel_rfl) rfl (by rfl) (.agg t2.toArray) (fun W hW => ex_loadMid rfl rfl (HRD.out W hW).2 Tryz.underlying42 rfl (by rw [hl2.out]; exact sizeTbl)) hI ?_
   simp only [Act.put, sA, sB, sC]
   refine oi_loud (k := 2) (by kernel_rfl) rfl ?_
   refine wl_enter (by rfl) (run_callv _ _ _ rfl rfl goesNew #[.agg t1.toArray] (by simp [Act.eval])) ?_
   refine (HN1.out _ (hx.trans hI)).mono ?_
   rintro e w5 ⟨gc1, rfl, hc1, hx5⟩
   have hI5 := hI.trans hx5
   refine ⟨_, rfl, oi_end ⟨hI5, ?_⟩⟩
   simp only [Act.put, sA, sB, sC]
   refine oi_loud (k := 5) (by kernel_rfl) rfl ?_
   refine wl_enter (by rfl) (run_callv _ _ _ rfl rfl goesNew #[.agg t2.toArray] (by simp [Act.eval])) ?_
   refine (HN2.out _ (hx.trans hI5)).mono ?_
   rintro e w6 ⟨gc2, rfl, hc2, hx6⟩
   have hI6 := hI5.trans hx6
   refine ⟨_, rfl, oi_end ⟨hI6, ?_⟩⟩
   simp only [Act.put, sA, sB, sC]
   refine oi_run (k := 6) (by kernel_rfl) rfl (by rfl) (.agg #[.pointer (some ⟨gc1, 0, none⟩), .pointer (some ⟨gc2, 0, none⟩)]) (ex_build2 rfl rfl rfl (builtCoders _ _)) hI6 ?_
   simp only [Act.put, sA, sB, sC]
   refine oi_loud (k := 7) (by kernel_rfl) rfl ?_
   refine wBox rfl 236 (.tmp 29) rfl #[.pointer (some ⟨gc1, 0, none⟩), .pointer (some ⟨gc2, 0, none⟩)] rfl ?_
   intro w7 gk hb7 hx7 hg7
   have hI7 := hI6.trans hx7
   refine oi_end ⟨hI7, ?_⟩
   simp only [Act.put, sA, sB, sC]
   refine oi_run (k := 8) (by kernel_rfl) rfl (by rfl) (.pointer (some ⟨gk, 0, none⟩)) (ex_assign rfl rfl) hI7 ?_
   simp only [Act.put, sA, sB, sC]
   refine oi_run (k := 9) (by kernel_rfl) rfl (by rfl) (.int .i64 0) (ex_assign rfl rfl) hI7 ?_
   simp only [Act.put, sA, sB, sC]
   refine oi_done (by kernel_rfl) ?_
   go_wp2_with fail
   refine bodyPost_ret (results_tmp2 rfl _ _ _) rfl ?_
   exact ⟨gk, gc1, gc2, rfl, hb7, (hc1.ext hx6).ext hx7, hc2.ext hx7, hx.trans hI7⟩
def spGo : List Nat → List (List Nat) → List Nat → List Nat → Option (List (List Nat) × List Nat)
 | [], P, M, c => some (P ++ [c], M)
 | [x], P, M, c => if x = 255 then none else some (P ++ [c ++ [x]], M)
 | x :: y :: r, P, M, c => if x = 255 then (if y = 255 then none else if y = 0 then spGo r P M (c ++ [255, 0]) else spGo r (P ++ [c]) (M ++ [y]) []) else spGo (y :: r) P M (c ++ [x])
theorem sp_end {bs : List Nat} {i : Nat} {P : List (List Nat)} {M c : List Nat} (h : bs.length ≤ i) : spGo (bs.drop i) P M c = some (P ++ [c], M) := by
 rw [List.drop_of_length_le h, spGo]
theorem sp_plain {bs : List Nat} {i : Nat} {P : List (List Nat)} {M c : List Nat} (h : i < bs.length) (hx : bs[i] ≠ 255) : spGo (bs.drop i) P M c = spGo (bs.drop (i + 1)) P M (c ++ [bs[i]]) := by
 rw [List.drop_eq_getElem_cons h]
 cases hd : bs.drop (i + 1) with
 | nil => simp [spGo, hx]
 | cons y r => simp [spGo, hx]
theorem sp_two {bs : List Nat} {i : Nat} {P : List (List Nat)} {M c : List Nat} (h : i + 1 < bs.length) (hx : bs[i] = 255) :
 spGo (bs.drop i) P M c = if bs[i + 1] = 255 then none else if bs[i + 1] = 0 then spGo (bs.drop (i + 2)) P M (c ++ [255, 0]) else spGo (bs.drop (i + 2)) (P ++ [c]) (M ++ [bs[i + 1]]) [] := by
 rw [List.drop_eq_getElem_cons (by omega), List.drop_eq_getElem_cons h, spGo, if_pos hx]
theorem sp_last {bs : List Nat} {i : Nat} {P : List (List Nat)} {M c : List Nat} (h : i + 1 = bs.length) (hx : bs[i]'(by omega) = 255) : spGo (bs.drop i) P M c = none := by
 rw [List.drop_eq_getElem_cons (by omega), List.drop_of_length_le (by omega), spGo, if_pos hx]
theorem sp_len : ∀ (r : List Nat) (P : List (List Nat)) (M c : List Nat) (z : List (List Nat) × List Nat), spGo r P M c = some z → z.1.length ≤ P.length + r.length + 1 ∧ z.2.length ≤ M.length + r.length
 | [], P, M, c, z, h => by simp [spGo] at h; subst h; simp
 | [x], P, M, c, z, h => by
   simp only [spGo] at h
   split at h
   ·cases h
   ·simp at h; subst h; simp
 | x :: y :: r, P, M, c, z, h => by
   simp only [spGo] at h
   split at h
   ·split at h
    ·cases h
    ·split at h
     ·have := sp_len r P M (c ++ [255, 0]) z h
      simp only [List.length_cons]; omega
     ·have := sp_len r (P ++ [c]) (M ++ [y]) [] z h
      simp only [List.length_append, List.length_cons, List.length_nil] at this ⊢; omega
   ·have := sp_len (y :: r) P M (c ++ [x]) z h
    simp only [List.length_cons] at this ⊢; omega
def Pieces (w : World) (VS : List Value) (P : List (List Nat)) : Prop :=
 VS.length = P.length ∧ ∀ i (h : i < P.length), ∃ A c, VS[i]? = some (.slice A P[i].length c) ∧ SL w 1 (.slice A P[i].length c) P[i].length (bytesV P[i])
theorem Pieces.ext {w w' : World} {VS : List Value} {P : List (List Nat)} (h : Pieces w VS P) (hx : Ext w w') : Pieces w' VS P :=
 ⟨h.1, fun i hi => by obtain ⟨A, c, h1, h2⟩ := h.2 i hi; exact ⟨A, c, h1, h2.ext hx⟩⟩
theorem Pieces.snoc {w : World} {VS : List Value} {P : List (List Nat)} (h : Pieces w VS P) {A : Option Addr} {n c : Nat} {l : List Nat} (hn : l.length = n) (hs : SL w 1 (.slice A n c) n (bytesV l)) : Pieces w (VS ++ [.slice A n c]) (P ++ [l]) := by
 subst hn
 refine ⟨by simp [h.1], fun i hi => ?_⟩
 by_cases hlt : i < P.length
 ·obtain ⟨B, d, h1, h2⟩ := h.2 i hlt
  refine ⟨B, d, ?_, ?_⟩
  ·rw [List.getElem?_append_left (by rw [h.1]; exact hlt), h1, List.getElem_append_left hlt]
  ·rw [List.getElem_append_left hlt]; exact h2
 ·have e : i = P.length := by simp at hi; omega
  subst e
  refine ⟨A, c, ?_, ?_⟩
  ·rw [List.getElem?_append_right (by rw [h.1]; exact Nat.le_refl _), h.1]; simp
  ·simpa using hs
def b8 (s : List Nat) : List UInt8 := s.map UInt8.ofNat
theorem b8_len (s : List Nat) : (b8 s).length = s.length := by simp [b8]
theorem b8_drop (s : List Nat) (k : Nat) : b8 (s.drop k) = (b8 s).drop k := by simp [b8]
def ixN (s o : List Nat) : Int := Lib.index (b8 s) (b8 o)
def cntN (s o : List Nat) : Nat := Lib.count (b8 s) (b8 o)
def replN : Nat → List Nat → List Nat → List Nat → List Nat
 | 0, s, _, _ => s
 | m + 1, s, o, v => s.take (ixN s o).toNat ++ (v ++ replN m (s.drop ((ixN s o).toNat + o.length)) o v)
theorem b8_nil {o : List Nat} (h : o ≠ []) : b8 o ≠ [] := by
 intro e
 have := congrArg List.length e
 rw [b8_len] at this
 exact h (List.eq_nil_of_length_eq_zero this)
theorem cnt_succ {s o : List Nat} {m : Nat} (ho : o ≠ []) (h : cntN s o = m + 1) : ∃ i : Nat, ixN s o = i ∧ i + o.length ≤ s.length ∧ cntN (s.drop (i + o.length)) o = m := by
 unfold cntN at h
 have hge := Lib.index_ge (b8 s) (b8 o)
 have hne : Lib.index (b8 s) (b8 o) ≠ -1 := fun e => by rw [Lib.count_miss e] at h; omega
 obtain ⟨i, hi⟩ : ∃ i : Nat, Lib.index (b8 s) (b8 o) = i := ⟨(Lib.index (b8 s) (b8 o)).toNat, by omega⟩
 have hr := Lib.index_room (b8 s) (b8 o) (by omega)
 rw [hi, b8_len, b8_len] at hr
 rw [Lib.count_hit (b8_nil ho) hi, b8_len] at h
 refine ⟨i, hi, by omega, ?_⟩
 unfold cntN
 rw [b8_drop]
 omega
theorem replN_len : ∀ (m : Nat) (s o v : List Nat), o ≠ [] → cntN s o = m → (replN m s o v).length + m * o.length = s.length + m * v.length
 | 0, s, o, v, _, _ => by simp [replN]
 | m + 1, s, o, v, ho, h => by
   obtain ⟨i, h1, h2, h3⟩ := cnt_succ ho h
   have ih := replN_len m _ o v ho h3
   rw [replN, h1, Int.toNat_natCast, List.length_append, List.length_append, List.length_take, Nat.min_eq_left (by omega), Nat.succ_mul, Nat.succ_mul]
   rw [List.length_drop] at ih
   omega
theorem cnt_room : ∀ (m : Nat) (s o : List Nat), o ≠ [] → cntN s o = m → m * o.length ≤ s.length
 | 0, s, o, _, _ => by simp
 | m + 1, s, o, ho, h => by
   obtain ⟨i, h1, h2, h3⟩ := cnt_succ ho h
   have ih := cnt_room m _ o ho h3
   rw [List.length_drop] at ih
   rw [Nat.succ_mul]
   omega
theorem ix_nil {o : List Nat} (ho : o ≠ []) : ixN [] o = -1 := by
 unfold ixN
 cases h : b8 o with
 | nil => exact absurd h (b8_nil ho)
 | cons => simp [b8, Lib.index]
theorem cnt_nil {o : List Nat} (ho : o ≠ []) : cntN [] o = 0 := Lib.count_miss (ix_nil ho)
theorem ix_here {s o : List Nat} (hp : (b8 o).isPrefixOf (b8 s) = true) : ixN s o = 0 := by
 unfold ixN
 cases s with
 | nil =>
   cases hq : b8 o with
   | nil => simp [b8, Lib.index]
   | cons => rw [hq] at hp; simp [b8] at hp
 | cons b l =>
   rw [show b8 (b :: l) = UInt8.ofNat b :: b8 l from rfl] at hp ⊢
   rw [Lib.index, if_pos hp]
theorem ix_skip {b : Nat} {l o : List Nat} (hp : (b8 o).isPrefixOf (b8 (b :: l)) = false) : ixN (b :: l) o = if ixN l o = -1 then -1 else ixN l o + 1 := by
 unfold ixN
 rw [show b8 (b :: l) = UInt8.ofNat b :: b8 l from rfl] at hp ⊢
 rw [Lib.index, hp]
 simp
theorem cnt_here {s o : List Nat} (ho : o ≠ []) (hp : (b8 o).isPrefixOf (b8 s) = true) : cntN s o = 1 + cntN (s.drop o.length) o := by
 unfold cntN
 rw [Lib.count_hit (i := 0) (b8_nil ho) (ix_here hp), b8_len, Nat.zero_add, b8_drop]
theorem cnt_skip {b : Nat} {l o : List Nat} (ho : o ≠ []) (hp : (b8 o).isPrefixOf (b8 (b :: l)) = false) : cntN (b :: l) o = cntN l o := by
 have h := ix_skip hp
 have hge := Lib.index_ge (b8 l) (b8 o)
 by_cases hm : ixN l o = -1
 ·rw [if_pos hm] at h
  unfold cntN
  rw [Lib.count_miss h, Lib.count_miss hm]
 ·rw [if_neg hm] at h
  obtain ⟨i, hi⟩ : ∃ i : Nat, ixN l o = i := ⟨(ixN l o).toNat, by unfold ixN at *; omega⟩
  rw [hi] at h
  unfold cntN
  rw [Lib.count_hit (i := i + 1) (b8_nil ho) (by have := h; unfold ixN at this; rw [this]; rfl), Lib.count_hit (i := i) (b8_nil ho) hi]
  rw [show b8 (b :: l) = UInt8.ofNat b :: b8 l from rfl, show i + 1 + (b8 o).length = (i + (b8 o).length) + 1 by omega, List.drop_succ_cons]
def replZ (s o v : List Nat) : List Nat := replN (cntN s o) s o v
theorem replZ_nil {o : List Nat} (ho : o ≠ []) (v : List Nat) : replZ [] o v = [] := by unfold replZ; rw [cnt_nil ho, replN]
theorem replZ_here {s o : List Nat} (ho : o ≠ []) (hp : (b8 o).isPrefixOf (b8 s) = true) (v : List Nat) : replZ s o v = v ++ replZ (s.drop o.length) o v := by
 unfold replZ
 rw [cnt_here ho hp, Nat.add_comm, replN, ix_here hp]
 simp
theorem replZ_skip {b : Nat} {l o : List Nat} (ho : o ≠ []) (hp : (b8 o).isPrefixOf (b8 (b :: l)) = false) (v : List Nat) : replZ (b :: l) o v = b :: replZ l o v := by
 unfold replZ
 rw [cnt_skip ho hp]
 cases hc : cntN l o with
 | zero => rfl
 | succ m =>
   obtain ⟨i, h1, h2, h3⟩ := cnt_succ ho hc
   have h := ix_skip hp
   rw [h1, if_neg (by omega)] at h
   rw [replN, replN, h, h1, show ((i : Int) + 1).toNat = i + 1 by omega, Int.toNat_natCast, List.take_succ_cons, show i + 1 + o.length = (i + o.length) + 1 by omega, List.drop_succ_cons]
   rfl
theorem u8_inj {a b : Nat} (ha : a < 256) (hb : b < 256) : (UInt8.ofNat a == UInt8.ofNat b) = decide (a = b) := by
 rw [Bool.eq_iff_iff, beq_iff_eq, decide_eq_true_iff]
 constructor
 ·intro h
  have := congrArg UInt8.toNat h
  simp at this
  omega
 ·rintro rfl; rfl
theorem pre2 {b c : Nat} {l : List Nat} (y z : Nat) (hy : y < 256) (hz : z < 256) (hb : b < 256) (hc : c < 256) : (b8 [y, z]).isPrefixOf (b8 (b :: c :: l)) = (decide (y = b) && decide (z = c)) := by
 simp only [b8, List.map_cons, List.map_nil, List.isPrefixOf, Bool.and_true]
 rw [u8_inj hy hb, u8_inj hz hc]
theorem pre2_one {b : Nat} (y z : Nat) : (b8 [y, z]).isPrefixOf (b8 [b]) = false := by
 simp [b8, List.isPrefixOf]
theorem count_one : ∀ (s : List UInt8) (c : UInt8), Lib.count s [c] = s.count c := by
 have key : ∀ (n : Nat) (s : List UInt8) (c : UInt8), s.length ≤ n → Lib.count s [c] = s.count c := by
  intro n
  induction n with
  | zero =>
    intro s c h
    obtain rfl : s = [] := List.eq_nil_of_length_eq_zero (by omega)
    rfl
  | succ n ih =>
    intro s c h
    cases s with
    | nil => rfl
    | cons b l =>
      have hl : l.length ≤ n := by simpa using h
      by_cases hb : c = b
      ·have hix : Lib.index (b :: l) [c] = ((0 : Nat) : Int) := by
        rw [Lib.index, if_pos (by simp [List.isPrefixOf, hb])]; rfl
       rw [Lib.count_hit (by simp) hix]
       rw [show (b :: l).drop (0 + [c].length) = l from rfl, ih l c hl, hb, List.count_cons_self]
       omega
      ·rw [List.count_cons_of_ne (fun e => hb e.symm), ← ih l c hl]
       have hix : Lib.index (b :: l) [c] = if (Lib.index l [c] == -1) = true then -1 else Lib.index l [c] + 1 := by
        rw [Lib.index, if_neg (by simp [List.isPrefixOf, hb])]
       have hge := Lib.index_ge l [c]
       by_cases hm : Lib.index l [c] = -1
       ·rw [hm] at hix
        rw [Lib.count_miss hix, Lib.count_miss hm]
       ·obtain ⟨i, hi⟩ : ∃ i : Nat, Lib.index l [c] = i := ⟨(Lib.index l [c]).toNat, by omega⟩
        rw [if_neg (by simpa using hm), hi] at hix
        rw [Lib.count_hit (i := i + 1) (by simp) (by rw [hix]; rfl), Lib.count_hit (i := i) (by simp) hi]
        rfl
 exact fun s c => key s.length s c (Nat.le_refl _)
def stuffZ (bs : List Nat) : List Nat := bs.flatMap fun b => if b = 255 then [255, 0] else [b]
def plZ : List Nat → Option (List Nat)
 | [] => some []
 | [b] => if b = 255 then none else some [b]
 | b :: c :: r => if b = 255 then (if c = 0 then (plZ r).map (255 :: ·) else none) else (plZ (c :: r)).map (b :: ·)
theorem plain_repl : ∀ (bs : List Nat) (z : List Nat), (∀ b ∈ bs, b < 256) → plZ bs = some z → replZ bs [255, 0] [255] = z
 | [], z, _, hz => by
   obtain rfl : [] = z := by simpa [plZ] using hz
   exact replZ_nil (by simp) _
 | [b], z, h, hz => by
   rw [plZ] at hz
   split at hz
   ·cases hz
   ·injection hz with hz
    rw [replZ_skip (by simp) (pre2_one _ _), replZ_nil (by simp), hz]
 | b :: c :: r, z, h, hz => by
   have hb := h b (by simp)
   have hc := h c (by simp)
   have hp := pre2 (l := r) 255 0 (by omega) (by omega) hb hc
   rw [plZ] at hz
   by_cases hq : b = 255
   ·rw [if_pos hq] at hz
    by_cases h0 : c = 0
    ·rw [if_pos h0] at hz
     rw [replZ_here (by simp) (by rw [hp]; simp [hq, h0])]
     cases hr : plZ r with
     | none => rw [hr] at hz; cases hz
     | some q =>
       rw [hr] at hz
       injection hz with hz
       rw [show (b :: c :: r).drop [255, 0].length = r from rfl, plain_repl r q (fun x hx => h x (by simp [hx])) hr, ← hz]
       rfl
    ·rw [if_neg h0] at hz; cases hz
   ·rw [if_neg hq] at hz
    rw [replZ_skip (by simp) (by rw [hp, decide_eq_false (fun e : 255 = b => hq e.symm)]; rfl)]
    cases hr : plZ (c :: r) with
    | none => rw [hr] at hz; cases hz
    | some q =>
      rw [hr] at hz
      injection hz with hz
      rw [plain_repl (c :: r) q (fun x hx => h x (by simp [hx])) hr, ← hz]
theorem sp_plZ : ∀ (bs : List Nat) (P : List (List Nat)) (M c : List Nat), (M ≠ [] ∨ plZ bs = none → ∀ z, spGo bs P M c = some z → z.2 ≠ []) ∧ (M = [] → ∀ q, plZ bs = some q → ∃ z, spGo bs P M c = some (z, []))
 | [], P, M, c => by
   rw [spGo, plZ]
   refine ⟨fun h z hz => ?_, fun h q _ => ⟨_, by rw [h]⟩⟩
   injection hz with hz
   subst hz
   rcases h with h | h
   ·exact h
   ·cases h
 | [x], P, M, c => by
   rw [spGo, plZ]
   by_cases hx : x = 255
   ·rw [if_pos hx, if_pos hx]
    exact ⟨fun _ z hz => (by cases hz), fun _ q hq => (by cases hq)⟩
   ·rw [if_neg hx, if_neg hx]
    refine ⟨fun h z hz => ?_, fun h q _ => ⟨_, by rw [h]⟩⟩
    injection hz with hz
    subst hz
    rcases h with h | h
    ·exact h
    ·cases h
 | x :: y :: r, P, M, c => by
   rw [plZ, spGo]
   by_cases hx : x = 255
   ·rw [if_pos hx, if_pos hx]
    by_cases h1 : y = 255
    ·rw [if_pos h1, if_neg (by omega)]
     exact ⟨fun _ z hz => (by cases hz), fun _ q hq => (by cases hq)⟩
    ·rw [if_neg h1]
     by_cases h0 : y = 0
     ·rw [if_pos h0, if_pos h0]
      have ih := sp_plZ r P M (c ++ [255, 0])
      refine ⟨fun h z hz => ih.1 (h.imp_right fun h => ?_) z hz, fun h q hq => ?_⟩
      ·cases hr : plZ r with
       | none => rfl
       | some q => rw [hr] at h; cases h
      ·cases hr : plZ r with
       | none => rw [hr] at hq; cases hq
       | some q' => exact ih.2 h q' hr
     ·rw [if_neg h0, if_neg h0]
      exact ⟨fun _ z hz => (sp_plZ r (P ++ [c]) (M ++ [y]) []).1 (.inl (by simp)) z hz, fun _ q hq => (by cases hq)⟩
   ·rw [if_neg hx, if_neg hx]
    have ih := sp_plZ (y :: r) P M (c ++ [x])
    refine ⟨fun h z hz => ih.1 (h.imp_right fun h => ?_) z hz, fun h q hq => ?_⟩
    ·cases hr : plZ (y :: r) with
     | none => rfl
     | some q => rw [hr] at h; cases h
    ·cases hr : plZ (y :: r) with
     | none => rw [hr] at hq; cases hq
     | some q' => exact ih.2 h q' hr
theorem SL.sub {w : World} {A : Option Addr} {n c l h : Nat} {xs : List Value} (hs : SL w 1 (.slice A n c) n xs) (hl : l ≤ h) (hh : h ≤ n) :
 SL w 1 (.slice (if c = l then A else A.map (·.add l)) (h - l) (c - l)) (h - l) ((xs.drop l).take (h - l)) := by
 obtain ⟨A', c', e, h1, h2, h3, h4⟩ := hs
 injection e with e1 e2 e3
 subst e1 e3
 refine ⟨_, _, rfl, by omega, by omega, by simp; omega, fun h0 => ?_⟩
 obtain ⟨ad, rfl, hb, hc⟩ := h4 (by omega)
 rw [if_neg (by omega)]
 refine ⟨ad.add l, rfl, by rw [block_of_add]; exact hb, fun j u hu => ?_⟩
 rw [add_of_add]
 refine hc _ _ ?_
 have hj : j < h - l := by have := (List.getElem?_eq_some_iff.1 hu).1; simp at this; omega
 rwa [List.getElem?_take_of_lt hj, List.getElem?_drop] at hu
theorem run_sliceB (A : Option Addr) (n c l h : Nat) (hl : l ≤ h) (hh : h ≤ n) (hc : n ≤ c) (w : World) :
 (Instr.slice 45 (.slice A n c) (some (.int .i64 (l : Int))) (some (.int .i64 (h : Int))) none).run Tryz.prog w = .ok (.slice (if c = l then A else A.map (·.add l)) (h - l) (c - l)) w := by
 have e1 : ((l : Int) ≤ (h : Int)) := by omega
 have e2 : ((h : Int) ≤ (c : Int)) := by omega
 have e3 : l ≤ c := by omega
 go_simp
theorem run_sliceF (A : Option Addr) (n c l : Nat) (hh : l ≤ n) (hc : n ≤ c) (w : World) :
 (Instr.slice 45 (.slice A n c) (some (.int .i64 (l : Int))) none none).run Tryz.prog w = .ok (.slice (if c = l then A else A.map (·.add l)) (n - l) (c - l)) w := by
 have e1 : ((l : Int) ≤ (n : Int)) := by omega
 have e2 : ((n : Int) ≤ (c : Int)) := by omega
 have e3 : l ≤ c := by omega
 go_simp
section
variable {o : Oper} {a : Act}
theorem ex_sliceB {x lo hi : Operand} (ho : o.op = .slice 45 x (some lo) (some hi) none) {A : Option Addr} {n c l h : Nat} (hx : a.eval x = .slice A n c) (h1 : a.eval lo = .int .i64 (l : Int)) (h2 : a.eval hi = .int .i64 (h : Int)) (hl : l ≤ h) (hh : h ≤ n) (hc : n ≤ c) (w : World) :
 (execOp a.eval o).run Tryz.prog w = .ok (.value (.slice (if c = l then A else A.map (·.add l)) (h - l) (c - l))) w := by
 simp [execOp, ho, hx, h1, h2, Instr.sliceAt, Sem.run_bind, run_underlying Tryz.underlying45, run_sliceB A n c l h hl hh hc w]
theorem ex_sliceF {x lo : Operand} (ho : o.op = .slice 45 x (some lo) none none) {A : Option Addr} {n c l : Nat} (hx : a.eval x = .slice A n c) (h1 : a.eval lo = .int .i64 (l : Int)) (hh : l ≤ n) (hc : n ≤ c) (w : World) :
 (execOp a.eval o).run Tryz.prog w = .ok (.value (.slice (if c = l then A else A.map (·.add l)) (n - l) (c - l))) w := by
 simp [execOp, ho, hx, h1, Instr.sliceAt, Sem.run_bind, run_underlying Tryz.underlying45, run_sliceF A n c l hh hc w]
end
def RdS (w : World) (gr : Nat) (A : Option Addr) (n c p : Nat) (bs : List Nat) : Prop :=
 Blk w gr 246 #[.slice A n c, .int .i64 (p : Int)] ∧ SL w 1 (.slice A n c) n (bytesV bs) ∧ bs.length = n ∧ (0 < n → ∀ ad, A = some ad → ad.block < gr) ∧ (∀ b ∈ bs, b < 256) ∧ n ≤ 100000000000 ∧ p ≤ 8 * n
theorem RdS.cells {w : World} {gr : Nat} {A : Option Addr} {n c p : Nat} {bs : List Nat} (h : RdS w gr A n c p bs) : w.cell? ⟨gr, 0, none⟩ = some (.slice A n c) ∧ w.cell? ⟨gr, 1, none⟩ = some (.int .i64 (p : Int)) := by
 have h0 := h.1.cell 0
 have h1 := h.1.cell 1
 exact ⟨h0, h1⟩
theorem RdS.ext {w w' : World} {gr : Nat} {A : Option Addr} {n c p : Nat} {bs : List Nat} (h : RdS w gr A n c p bs) (hx : Ext w w') : RdS w' gr A n c p bs :=
 ⟨h.1.ext hx, h.2.1.ext hx, h.2.2⟩
theorem RdS.upd {S : Nat → Prop} {w w' : World} {gr : Nat} {A : Option Addr} {n c p : Nat} {bs : List Nat} (h : RdS w gr A n c p bs) (hu : Upd S w w') (hS : ∀ x, S x → gr < x) : RdS w' gr A n c p bs :=
 ⟨hu.blk h.1 (fun e => by have := hS _ e; omega), h.2.1.upd0 hu (fun h0 ad e e2 => by have := hS _ e2; have := h.2.2.2.1 h0 ad e; omega), h.2.2⟩
theorem RdS.drew {w : World} {gr : Nat} {A : Option Addr} {n c p : Nat} {bs : List Nat} (h : RdS w gr A n c p bs) : RdS w.drew gr A n c p bs := h
set_option maxRecDepth 20000 in
set_option maxHeartbeats 1000000 in
theorem left_any (gr : Nat) (A : Option Addr) (n c p : Nat) (bs : List Nat) (w : World) (h : RdS w gr A n c p bs) :
 Calls Tryz.prog 163 #[.pointer (some ⟨gr, 0, none⟩)] w fun e w' => e = .returned (.int .i64 ((8 * n - p : Nat) : Int)) ∧ Ext w w' := by
 have hn : n ≤ 100000000000 := h.2.2.2.2.2.1
 have hp : p ≤ 8 * n := h.2.2.2.2.2.2
 have HC0 : ∀ W, Ext w.drew W → W.cell? ⟨gr, 0, none⟩ = some (.slice A n c) := fun W hx => (h.drew.ext hx).cells.1
 have HC1 : ∀ W, Ext w.drew W → W.cell? ⟨gr, 1, none⟩ = some (.int .i64 (p : Int)) := fun W hx => (h.drew.ext hx).cells.2
 go_enter Tryz.func163, Tryz.ntmps163
 go_wp2_with fail
 refine wp_region_lx later_ext (by kernel_rfl) (by kernel_rfl) ?_
 refine lx_run (by rfl) (.pointer (some ⟨gr, 0, none⟩)) (ex_move rfl rfl) ?_
 simp only [Act.put, sA, sB, sC]
 refine lx_run (by rfl) (.pointer (some ⟨gr, 0, none⟩)) (ex_nil rfl rfl) ?_
 simp only [Act.put, sA, sB, sC]
 refine lx_run (by rfl) (.pointer (some ⟨gr, 0, none⟩)) (fun W => by go_simp) ?_
 simp only [Act.put, sA, sB, sC]
 refine lx_read (by rfl) (.slice A n c) (fun W hW => ex_loadS rfl rfl (HC0 W hW)) ?_
 simp only [Act.put, sA, sB, sC]
 refine lx_run (by rfl) (.int .i64 ((n : Nat) : Int)) (fun W => by go_simp) ?_
 simp only [Act.put, sA, sB, sC]
 refine lx_run (by rfl) (.int .i64 ((8 * n : Nat) : Int)) (ex_mulN (i := 8) (d := n) rfl rfl rfl (by omega)) ?_
 simp only [Act.put, sA, sB, sC]
 refine lx_run (by rfl) (.pointer (some ⟨gr, 0, none⟩)) (ex_move rfl rfl) ?_
 simp only [Act.put, sA, sB, sC]
 refine lx_run (by rfl) (.pointer (some ⟨gr, 0, none⟩)) (ex_nil rfl rfl) ?_
 simp only [Act.put, sA, sB, sC]
 refine lx_run (by rfl) (.pointer (some ⟨gr, 1, none⟩)) (fun W => by go_simp) ?_
 simp only [Act.put, sA, sB, sC]
 refine lx_read (by rfl) (.int .i64 ((p : Nat) : Int)) (fun W hW => ex_loadI rfl rfl (HC1 W hW)) ?_
 simp only [Act.put, sA, sB, sC]
 refine lx_run (by rfl) (.int .i64 (((8 * n) - p : Nat) : Int)) (ex_subN (i := 8 * n) (d := p) rfl rfl rfl (by omega) (by omega)) ?_
 simp only [Act.put, sA, sB, sC]
 refine lx_run (by rfl) (.int .i64 (((8 * n) - p : Nat) : Int)) (ex_assign rfl rfl) ?_
 simp only [Act.put, sA, sB, sC]
 refine lx_nil ?_
 intro w9 hx9
 go_wp2_with fail
 go_ret
 exact ⟨rfl, (Ext.refl w).drew.trans hx9⟩
theorem bytes_at {bs : List Nat} {k : Nat} {u : Value} (h : (bytesV bs)[k]? = some u) : ∃ hk : k < bs.length, u = .int .u8 ((bs[k] : Nat) : Int) := by
 unfold bytesV at h
 rw [List.getElem?_map] at h
 obtain ⟨z, hz, rfl⟩ := Option.map_eq_some_iff.1 h
 obtain ⟨hk, rfl⟩ := List.getElem?_eq_some_iff.1 hz
 exact ⟨hk, rfl⟩
set_option maxRecDepth 20000 in
set_option maxHeartbeats 1000000 in
theorem get_no (gr : Nat) (A : Option Addr) (n c p : Nat) (bs : List Nat) (width : Nat) (w : World) (h : RdS w gr A n c p bs) (hw : 8 * n < p + width) (hw2 : width ≤ 1000) :
 Calls Tryz.prog 164 #[.pointer (some ⟨gr, 0, none⟩), .int .i64 (width : Int)] w fun e w' => e = .returned (.tuple #[.int .i64 0, .bool false]) ∧ Ext w w' := by
 have hn : n ≤ 100000000000 := h.2.2.2.2.2.1
 have hp : p ≤ 8 * n := h.2.2.2.2.2.2
 have HL := hid_ (fun W h => left_any gr A n c p bs W h)
 generalize hl : 8 * n - p = l at *
 have hlw : l < width := by omega
 go_enter Tryz.func164, Tryz.ntmps164
 go_wp2_with (go_at_call 163; (with_reducible refine (HL.out _ h).mono ?_); rintro e w2 ⟨rfl, hx2⟩)
 go_ret2
 exact ⟨rfl, hx2⟩
set_option maxRecDepth 20000 in
set_option maxHeartbeats 1000000 in
theorem get_yes (gr : Nat) (A : Option Addr) (n c p : Nat) (bs : List Nat) (width : Nat) (w : World) (h : RdS w gr A n c p bs) (hw : p + width ≤ 8 * n) (hw2 : width ≤ 24) :
 Calls Tryz.prog 164 #[.pointer (some ⟨gr, 0, none⟩), .int .i64 (width : Int)] w fun e w' =>
  e = .returned (.tuple #[.int .i64 ((numB (((digsOf bs).drop p).take width) : Nat) : Int), .bool true]) ∧ RdS w' gr A n c (p + width) bs ∧ Upd (fun x => x = gr) w w' := by
 have hn : n ≤ 100000000000 := h.2.2.2.2.2.1
 have hp : p ≤ 8 * n := h.2.2.2.2.2.2
 have hbl := h.2.2.1
 have HB := hid_ h.2.2.2.2.1
 have hne := h.2.2.2.1
 have HD := hid_ (digsOf_len bs)
 have HL := hid_ (fun W h => left_any gr A n c p bs W h)
 have HNX := hid_ (fun i h1 h2 => numB_next bs p i h1 h2)
 have HLT := hid_ (fun i (h1 : i ≤ 24) => numB_take_lt ((digsOf bs).drop p) i 24 h1)
 generalize hl : 8 * n - p = l at *
 have hlw : ¬ l < width := by omega
 go_enter Tryz.func164, Tryz.ntmps164
 go_wp2_with (go_at_call 163; (with_reducible refine (HL.out _ h).mono ?_); rintro e w2 ⟨rfl, hx2⟩)
 have h2 := h.ext hx2
 go_loopw [6, 12] (fun v i wr => ∃ k : Nat, k ≤ width ∧ i = .int .i64 (k : Int) ∧ v = .int .i64 ((numB (((digsOf bs).drop p).take k) : Nat) : Int) ∧ RdS wr gr A n c (p + k) bs ∧ Upd (fun x => x = gr) w wr) (fun _ i _ => width - (intOf i).toNat)
 case atStart => exact ⟨0, by omega, rfl, by simp [numB], h2, Upd.of_ext hx2⟩
 case round =>
  obtain ⟨k, hk, rfl, rfl, hr, hu⟩ := hrel
  by_cases hlt : k < width
  ·obtain ⟨q, hq⟩ : ∃ q, q = p + k := ⟨_, rfl⟩
   rw [← hq] at hr
   have hq8 : q / 8 < n := by omega
   have hqm : q % 8 < 8 := by omega
   obtain ⟨ad, u, rfl, hab, hxk, hcell⟩ := hr.2.1.at1 hq8
   obtain ⟨hkl, rfl⟩ := bytes_at hxk
   have HN2 := hid_ (HNX.out k (by have := HD.out; omega) (by rw [← hq]; exact hkl))
   have hx : bs[q / 8] < 256 := HB.out _ (List.getElem_mem hkl)
   have hm0 := HLT.out k (by omega)
   have HEQ : Hid (bs[(p + k) / 8]'(by rw [← hq]; exact hkl) = bs[q / 8]) := hid_ (by congr 2; omega)
   rw [HEQ.out, ← hq] at HN2
   clear HEQ
   generalize bs[q / 8] = x at *
   obtain ⟨s, hs⟩ : ∃ s, s = 7 - q % 8 := ⟨_, rfl⟩
   have HS : Hid (7 - q % 8 = s) := hid_ hs.symm
   have s8 : s < 8 := by omega
   rw [HS.out] at HN2
   have hy : x / 2 ^ s < 256 := by have := Nat.div_le_self x (2 ^ s); omega
   have hb : x / 2 ^ s % 2 < 256 := by omega
   have hb2 : x / 2 ^ s % 2 < 2 := by omega
   generalize hmm : numB (((digsOf bs).drop p).take k) = m at *
   have hm : m < 1099511627776 := by omega
   clear hmm hxk hs
   have HC0 : ∀ W, Ext wr.drew W → W.cell? ⟨gr, 0, none⟩ = some (.slice (some ad) n c) := fun W hx => (hr.drew.ext hx).cells.1
   have HC1 : ∀ W, Ext wr.drew W → W.cell? ⟨gr, 1, none⟩ = some (.int .i64 (q : Int)) := fun W hx => (hr.drew.ext hx).cells.2
   have HCX : ∀ W, Ext wr.drew W → W.cell? (ad.add (q / 8 * 1)) = some (.int .u8 ((x : Nat) : Int)) := fun W hxx => by
    rw [Nat.mul_one]
    exact (hxx.cell (by rw [block_of_add]; exact hab)).trans hcell
   clear hcell
   go_wp2_with fail
   refine wp_region_lx later_ext (by kernel_rfl) (by kernel_rfl) ?_
   refine lx_run (by rfl) (.int .i64 ((m : Nat) : Int)) (ex_move rfl rfl) ?_
   simp only [Act.put, sA, sB, sC]
   refine lx_run (by rfl) (.int .i64 ((2 * m : Nat) : Int)) (ex_binK (k := .i64) (m := (m : Int)) (k' := .u64) (n := 1) rfl rfl rfl (run_shl_one m hm)) ?_
   simp only [Act.put, sA, sB, sC]
   refine lx_run (by rfl) (.pointer (some ⟨gr, 0, none⟩)) (ex_move rfl rfl) ?_
   simp only [Act.put, sA, sB, sC]
   refine lx_run (by rfl) (.pointer (some ⟨gr, 0, none⟩)) (ex_nil rfl rfl) ?_
   simp only [Act.put, sA, sB, sC]
   refine lx_run (by rfl) (.pointer (some ⟨gr, 0, none⟩)) (fun W => by go_simp) ?_
   simp only [Act.put, sA, sB, sC]
   refine lx_read (by rfl) (.slice (some ad) n c) (fun W hW => ex_loadS rfl rfl (HC0 W hW)) ?_
   simp only [Act.put, sA, sB, sC]
   refine lx_run (by rfl) (.pointer (some ⟨gr, 0, none⟩)) (ex_move rfl rfl) ?_
   simp only [Act.put, sA, sB, sC]
   refine lx_run (by rfl) (.pointer (some ⟨gr, 0, none⟩)) (ex_nil rfl rfl) ?_
   simp only [Act.put, sA, sB, sC]
   refine lx_run (by rfl) (.pointer (some ⟨gr, 1, none⟩)) (fun W => by go_simp) ?_
   simp only [Act.put, sA, sB, sC]
   refine lx_read (by rfl) (.int .i64 ((q : Nat) : Int)) (fun W hW => ex_loadI rfl rfl (HC1 W hW)) ?_
   simp only [Act.put, sA, sB, sC]
   refine lx_run (by rfl) (.int .i64 ((q / 8 : Nat) : Int)) (ex_quoN (i := q) (d := 8) rfl rfl rfl (by omega) (by omega)) ?_
   simp only [Act.put, sA, sB, sC]
   refine lx_run (by rfl) (.pointer (some (ad.add ((q / 8) * 1)))) (ex_ixSl Tryz.underlying45 sizeU8' rfl rfl rfl hq8) ?_
   simp only [Act.put, sA, sB, sC]
   refine lx_read (by rfl) (.int .u8 ((x : Nat) : Int)) (fun W hW => ex_loadU rfl rfl (HCX W hW)) ?_
   simp only [Act.put, sA, sB, sC]
   refine lx_run (by rfl) (.pointer (some ⟨gr, 0, none⟩)) (ex_move rfl rfl) ?_
   simp only [Act.put, sA, sB, sC]
   refine lx_run (by rfl) (.pointer (some ⟨gr, 0, none⟩)) (ex_nil rfl rfl) ?_
   simp only [Act.put, sA, sB, sC]
   refine lx_run (by rfl) (.pointer (some ⟨gr, 1, none⟩)) (fun W => by go_simp) ?_
   simp only [Act.put, sA, sB, sC]
   refine lx_read (by rfl) (.int .i64 ((q : Nat) : Int)) (fun W hW => ex_loadI rfl rfl (HC1 W hW)) ?_
   simp only [Act.put, sA, sB, sC]
   refine lx_run (by rfl) (.int .i64 ((q % 8 : Nat) : Int)) (ex_remN (i := q) (d := 8) rfl rfl rfl (by omega) (by omega)) ?_
   simp only [Act.put, sA, sB, sC]
   refine lx_run (by rfl) (.int .i64 ((s : Nat) : Int)) (by rw [← HS.out]; exact ex_subN (i := 7) (d := q % 8) rfl rfl rfl (by omega) (by omega)) ?_
   simp only [Act.put, sA, sB, sC]
   refine lx_run (by rfl) (.int .u8 ((x / 2 ^ s : Nat) : Int)) (ex_binK (k := .u8) (m := (x : Int)) (k' := .i64) (n := (s : Int)) rfl rfl rfl (run_shr8 x s hx s8)) ?_
   simp only [Act.put, sA, sB, sC]
   refine lx_run (by rfl) (.int .u8 ((x / 2 ^ s % 2 : Nat) : Int)) (ex_binK (k := .u8) (m := ((x / 2 ^ s : Nat) : Int)) (k' := .u8) (n := 1) rfl rfl rfl (run_and8 (x / 2 ^ s) hy)) ?_
   simp only [Act.put, sA, sB, sC]
   refine lx_run (by rfl) (.int .i64 ((x / 2 ^ s % 2 : Nat) : Int)) (ex_conv rfl rfl (run_conv8 (x / 2 ^ s % 2) hb)) ?_
   simp only [Act.put, sA, sB, sC]
   refine lx_run (by rfl) (.int .i64 ((2 * m + x / 2 ^ s % 2 : Nat) : Int)) (ex_binK (k := .i64) (m := ((2 * m : Nat) : Int)) (k' := .i64) (n := ((x / 2 ^ s % 2 : Nat) : Int)) rfl rfl rfl (run_or2 m (x / 2 ^ s % 2) hm hb2)) ?_
   simp only [Act.put, sA, sB, sC]
   refine lx_run (by rfl) (.int .i64 ((2 * m + x / 2 ^ s % 2 : Nat) : Int)) (ex_assign rfl rfl) ?_
   simp only [Act.put, sA, sB, sC]
   refine lx_nil ?_
   intro w9 hx9
   have hr9 := hr.drew.ext hx9
   have hc1 := hr9.cells.2
   have hf1 := hr9.1.frozen 1
   have hb9 := hr9.1.set_ 1 (.int .i64 ((q : Int) + 1))
   simp at hb9
   have hu9 := (hu.trans (Upd.of_ext (S := fun x => x = gr) ((Ext.refl wr).drew.trans hx9)) (fun x hx => .inl hx)).setCell (p := ⟨gr, 1, none⟩) rfl (.int .i64 ((q : Int) + 1))
   have hs9 := hr9.2.1.upd (S := fun x => x = gr) ((Upd.refl (fun x => x = gr) w9).setCell (p := ⟨gr, 1, none⟩) rfl (.int .i64 ((q : Int) + 1))) (fun ad h e => by have := hr9.2.2.2.1 (by omega) ad h; omega)
   have hrest := hr9.2.2
   have HQ := hid_ hq
   have hq9 : q + 1 ≤ 8 * n := by omega
   have hqq : q + 1 = p + (k + 1) := by omega
   generalize hm2 : 2 * m + x / 2 ^ s % 2 = m2 at *
   clear hq hm2
   go_wp2_with fail
   go_roundw
   case rel =>
    refine ⟨k + 1, by omega, by go_num, by rw [HN2.out], ?_, hu9⟩
    rw [← hqq]
    exact ⟨by exact_mod_cast hb9, hs9, hrest.1, hrest.2.1, hrest.2.2.1, hrest.2.2.2.1, hq9⟩
   case measure => simp [intOf]; omega
  ·have e1 : k = width := by omega
   rw [e1] at hr ⊢
   clear e1 hk hlt
   go_wp2_with fail
   go_ret2
   exact ⟨rfl, hr, hu⟩
theorem newReader_any (A : Option Addr) (n c : Nat) (bs : List Nat) (w : World) (h : SL w 1 (.slice A n c) n (bytesV bs)) (hl : bs.length = n) (hb : ∀ b ∈ bs, b < 256) (hn : n ≤ 100000000000) :
 Calls Tryz.prog 161 #[.slice A n c] w fun e w' => ∃ gr, e = .returned (.pointer (some ⟨gr, 0, none⟩)) ∧ RdS w' gr A n c 0 bs ∧ Ext w w' ∧ w.heap.size = gr ∧ gr < w'.heap.size := by
 go_enter Tryz.func161, Tryz.ntmps161
 go_wp2_with fail
 go_ret
 refine ⟨_, rfl, ⟨Blk.new _ _ _, h.ext ((Ext.refl w).alloc _), hl, fun h0 ad e => ?_, hb, hn, by omega⟩, (Ext.refl w).alloc _, by omega, by simp⟩
 obtain ⟨A', c', e1, -, -, -, h4⟩ := h
 injection e1 with e1 e2 e3
 obtain ⟨ad', e4, h5, -⟩ := h4 h0
 rw [e, e4] at e1
 injection e1 with e1
 rw [e1]; exact h5
theorem run_shl1 (a : Nat) (h : a ≤ 24) (W : World) : (binOp .shl 3 (.int .i64 1) (.int .i64 (a : Int))).run Tryz.prog W = .ok (.int .i64 (2 ^ a)) W := by
 have h1 : (2 : Int) ^ a ≤ 2 ^ 24 := by have := Nat.pow_le_pow_right (n := 2) (by omega) h; exact_mod_cast this
 have h2 : (0 : Int) ≤ 2 ^ a := by exact_mod_cast Nat.zero_le (2 ^ a)
 have h3 : (2 : Int) ^ 24 = 16777216 := by decide
 rw [h3] at h1
 have e : IntKind.i64.wrap (2 ^ a) = 2 ^ a := IntWalk.i64_in _ (by omega)
 have e2 : ¬ ((a : Int) < 0) := by omega
 simp [binOp, e, e2]
theorem elt_intR : Elt Tryz.prog 22 3 1 8 := ⟨Tryz.underlying22, by kernel_rfl, by omega⟩
end Go.Proofs.YtkggcjdlpendfaaGreatDoor
