/- Contracts for the law SegDecodesUptoCard, part 17: what the functions that it reaches answer, for all arguments that the theorems name. -/
import Derived.Test.YtgmddhljgfbibaaDoorMSegDecodesUptoCard7
import Derived.Test.YtgmddhljgfbibaaDoorMSegDecodesUptoCard16
import Derived.Deep.Cut
import Derived.Great.Walk
import Derived.Test.YtgmddhljgfbibaaDoorMSegDecodesUptoCard3
import Derived.Test.YtgmddhljgfbibaaDoorMSegDecodesUptoCard2
import Derived.Test.YtgmddhljgfbibaaDoorMSegDecodesUptoCard5
import Derived.Test.YtgmddhljgfbibaaDoorMSegDecodesUptoCard12
import Derived.Test.YtgmddhljgfbibaaDoorMSegDecodesUptoCard10
/- Coder.Get. -/
namespace Go.Proofs.YtgmddhljgfbibaaDoor
set_option linter.unusedVariables false
set_option linter.unusedSimpArgs false
open Go.RowKit Go.Maps Go.WideMaps
theorem numB_bit (D : List Bool) (p k : Nat) (h : p + k < D.length) : numB ((D.drop p).take (k + 1)) = 2 * numB ((D.drop p).take k) + numB ((D.drop (p + k)).take 1) := by
  rw [numB_take_succ _ _ (by simp; omega)]
  congr 1
  have e : (D.drop (p + k)).take 1 = [D[p + k]] := by
    rw [List.drop_eq_getElem_cons h]; rfl
  rw [e]
  simp [numB]
theorem zero_intV (w : World) : (zeroValue 3).run Tryd.prog w = .ok (.int .i64 0) w := by kernel_rfl
set_option maxRecDepth 20000 in
set_option maxHeartbeats 2000000 in
theorem coderGet_pos (gc gr : Nat) (T : List Tok) (A : Option Addr) (n c p : Nat) (bs : List Nat) (w0 w : World) (hc : CoderS w0 gc T) (hg : w0.heap.size ≤ gr) (hbw : Below gr w0 w) (hr : RdS w gr A n c p bs) (hgw : gr < w.heap.size) :
    Calls Tryd.prog 129 #[.pointer (some ⟨gc, 0, none⟩), .pointer (some ⟨gr, 0, none⟩)] w fun e w' =>
      e = .returned (.tuple #[.int .i64 (getGo T (digsOf bs) p 16 1).1, .int .i64 (getGo T (digsOf bs) p 16 1).2.2]) ∧ RdS w' gr A n c (if (getGo T (digsOf bs) p 16 1).2.2 = 0 then (getGo T (digsOf bs) p 16 1).2.1 else if (getGo T (digsOf bs) p 16 1).2.2 = 3 then 8 * n else p + 16) bs ∧ Upd (fun x => x = gr) w w' := by
  have HD : Hid ((digsOf bs).length = 8 * n) := hid_ (by rw [digsOf_len, hr.2.2.1])
  have HNB := hid_ (numB_bit (digsOf bs) p)
  have HLT := hid_ (fun i (h1 : i ≤ 24) => numB_take_lt ((digsOf bs).drop p) i 24 h1)
  have HL1 := hid_ (fun q => numB_take_lt ((digsOf bs).drop q) 1 1 (by omega))
  have HG0 : Hid (∀ long, getGo T (digsOf bs) p 0 long = (0, p, 4)) := hid_ (fun long => getGo_end)
  have HGO : Hid (∀ f long, ¬ p + long ≤ 8 * n → getGo T (digsOf bs) p (f + 1) long = (0, p, 3)) := hid_ (fun f long h => getGo_out (by rw [HD.out]; exact h))
  have HGY : Hid (∀ f long t, p + long ≤ 8 * n → T.find? (hasCode (long : Int) (numB (((digsOf bs).drop p).take long) : Nat)) = some t → getGo T (digsOf bs) p (f + 1) long = (t.1, p + long, 0)) := hid_ (fun f long t h hf => getGo_yes (by rw [HD.out]; exact h) hf)
  have HGN : Hid (∀ f long, p + long ≤ 8 * n → T.find? (hasCode (long : Int) (numB (((digsOf bs).drop p).take long) : Nat)) = none → getGo T (digsOf bs) p (f + 1) long = getGo T (digsOf bs) p f (long + 1)) := hid_ (fun f long h hf => getGo_no (by rw [HD.out]; exact h) hf)
  obtain ⟨ez, hez⟩ : ∃ ez, ez = getGo T (digsOf bs) p 16 1 := ⟨_, rfl⟩
  have HEZ := hid_ hez
  rw [← hez]
  obtain ⟨ps, hps⟩ : ∃ ps, ps = (if ez.2.2 = 0 then ez.2.1 else if ez.2.2 = 3 then 8 * n else p + 16) := ⟨_, rfl⟩
  have HPS := hid_ hps
  rw [← hps]
  clear hez hps
  have hp0 : p ≤ 8 * n := hr.2.2.2.2.2.2
  go_enter Tryd.func129, Tryd.ntmps129
  go_wp2_with fail
  go_loopw [6, 7] (fun v i wr => ∃ k : Nat, k ≤ 16 ∧ i = .int .i64 ((k + 1 : Nat) : Int) ∧ v = .int .i64 ((numB (((digsOf bs).drop p).take k) : Nat) : Int) ∧ Hid (ez = getGo T (digsOf bs) p (16 - k) (k + 1)) ∧ RdS wr gr A n c (p + k) bs ∧ Upd (fun x => x = gr) w wr) (fun _ i _ => 17 - (intOf i).toNat)
  case atStart => exact ⟨0, by omega, rfl, by simp [numB], HEZ, hr, Upd.refl _ _⟩
  case round =>
    clear HEZ hr
    obtain ⟨k, hk, rfl, rfl, HEZ, hr, hu⟩ := hrel
    have hpk : p + k ≤ 8 * n := hr.2.2.2.2.2.2
    by_cases hlt : k < 16
    · have HEK : Hid (ez = getGo T (digsOf bs) p (15 - k + 1) (k + 1)) := hid_ (by rw [HEZ.out, show 15 - k + 1 = 16 - k by omega])
      clear HEZ
      by_cases hfit : p + k + 1 ≤ 8 * n
      · have HYES := hid_ (fun t h => HEK.out.trans (HGY.out (15 - k) (k + 1) t (by omega) h))
        have HNO := hid_ (fun h => HEK.out.trans (HGN.out (15 - k) (k + 1) (by omega) h))
        have hcw := hc.below hg (hbw.trans (hu.below (fun x hx => by omega) (by omega)))
        have HG : Hid (∀ W, RdS W gr A n c (p + k) bs → Calls Tryd.prog 40 #[.pointer (some ⟨gr, 0, none⟩), .int .i64 1] W fun e w' => e = .returned (.tuple #[.int .i64 ((numB (((digsOf bs).drop (p + k)).take 1) : Nat) : Int), .bool true]) ∧ RdS w' gr A n c (p + k + 1) bs ∧ Upd (fun x => x = gr) W w') := hid_ (fun W h => get_yes gr A n c (p + k) bs 1 W h hfit (by omega))
        have HM2 := hid_ (HNB.out k (by rw [HD.out]; omega))
        have hm0 := HLT.out k (by omega)
        have hm20 := HLT.out (k + 1) (by omega)
        have hb0 := HL1.out (p + k)
        generalize numB (((digsOf bs).drop (p + k)).take 1) = b at *
        generalize numB (((digsOf bs).drop p).take k) = m at *
        generalize hm2 : numB (((digsOf bs).drop p).take (k + 1)) = m2 at *
        have HMM := hid_ hm2
        clear hm2
        have hb2 : b < 2 := by omega
        have hm : m < 1099511627776 := by omega
        have hk64 : IntKind.i64.wrap (((k + 1 : Nat) : Int) + 1) = ((k + 1 + 1 : Nat) : Int) := by rw [IntWalk.i64_in _ (by omega)]; omega
        go_upto_region 8 with (go_at_call 40; (with_reducible refine (HG.out _ hr).mono ?_); rintro e w5 ⟨rfl, hr5, hu5⟩)
        refine wp_region_lit ?_
        refine wl_run rfl (.int .i64 ((m : Nat) : Int)) (ex_move rfl rfl) ?_
        simp only [Act.put, List.setIfInBounds_toArray, List.set_cons_succ, List.set_cons_zero]
        refine wl_run rfl (.int .i64 ((2 * m : Nat) : Int)) (ex_binK (k := .i64) (m := (m : Int)) (k' := .u64) (n := 1) rfl rfl rfl (run_shl_one m hm)) ?_
        simp only [Act.put, List.setIfInBounds_toArray, List.set_cons_succ, List.set_cons_zero]
        refine wl_run rfl (.int .i64 ((b : Nat) : Int)) (ex_move rfl rfl) ?_
        simp only [Act.put, List.setIfInBounds_toArray, List.set_cons_succ, List.set_cons_zero]
        refine wl_run rfl (.int .i64 ((m2 : Nat) : Int)) (by rw [HM2.out]; exact ex_binK (k := .i64) (m := ((2 * m : Nat) : Int)) (k' := .i64) (n := ((b : Nat) : Int)) rfl rfl rfl (run_or2 m b hm hb2)) ?_
        simp only [Act.put, List.setIfInBounds_toArray, List.set_cons_succ, List.set_cons_zero]
        refine wl_run rfl (.int .i64 ((m2 : Nat) : Int)) (ex_assign rfl rfl) ?_
        simp only [Act.put, List.setIfInBounds_toArray, List.set_cons_succ, List.set_cons_zero]
        have hcw5 : CoderS w5 gc T := hc.below hg (hbw.trans ((hu.trans hu5 (fun x hx => .inl hx)).below (fun x hx => by omega) (by omega)))
        have hu15 := hu.trans hu5 (fun x hx => .inl hx)
        obtain ⟨m1, mp, mn, hB, hm1, hmp⟩ := hcw5
        have c1 := hB.cell 1
        simp only [List.getElem?_toArray, List.getElem?_cons_zero, List.getElem?_cons_succ] at c1
        have hok : okP (((k + 1 : Nat) : Int), (m2 : Int)) := ⟨by simp only; omega, by simp only; omega⟩
        have HKEY := hid_ (keyOf_P _ hok)
        have HCF := hid_ (codeF_hasCode T ((k + 1 : Nat) : Int) (m2 : Int))
        cases hf : T.find? (hasCode ((k + 1 : Nat) : Int) (m2 : Int)) with
        | some t =>
          rw [hf] at HCF
          simp only [Option.map_some] at HCF
          have HZ2 := hid_ (HYES.out t hf)
          clear hf HYES HNO
          go_wp2_with (at_lookup; refine wpList_look_ok_g (by rfl) _ _ 120 3 rfl keyed_pair Tryd.underlying120 _ (zero_intV _) rfl hmp _ rfl (((k + 1 : Nat) : Int), (m2 : Int)) hok HKEY.out (.int .i64 t.1) (by rw [HCF.out]; rfl) true (by rw [HCF.out]; rfl) ?_)
          go_ret2
          rw [HZ2.out]
          exact ⟨rfl, by rw [HPS.out, HZ2.out, if_pos rfl]; exact hr5, hu15⟩
        | none =>
          rw [hf] at HCF
          simp only [Option.map_none] at HCF
          have HZ2 := hid_ (HNO.out hf)
          clear hf HYES HNO
          go_wp2_with (at_lookup; refine wpList_look_ok_g (by rfl) _ _ 120 3 rfl keyed_pair Tryd.underlying120 _ (zero_intV _) rfl hmp _ rfl (((k + 1 : Nat) : Int), (m2 : Int)) hok HKEY.out (.int .i64 0) (by rw [HCF.out]; rfl) false (by rw [HCF.out]; rfl) ?_)
          go_roundw
          case rel => exact ⟨k + 1, by omega, by go_num, by rw [HMM.out], hid_ (by rw [HZ2.out, show 15 - k = 16 - (k + 1) by omega]), hr5, hu15⟩
          case measure => simp [intOf]; omega
      · have HZ2 : Hid (ez = (0, p, 3)) := hid_ (HEK.out.trans (HGO.out (15 - k) (k + 1) (by omega)))
        have HG : Hid (∀ W, RdS W gr A n c (p + k) bs → Calls Tryd.prog 40 #[.pointer (some ⟨gr, 0, none⟩), .int .i64 1] W fun e w' => e = .returned (.tuple #[.int .i64 0, .bool false]) ∧ Ext W w') := hid_ (fun W h => get_no gr A n c (p + k) bs 1 W h (by omega) (by omega))
        go_wp2_with (go_at_call 40; (with_reducible refine (HG.out _ hr).mono ?_); rintro e w5 ⟨rfl, hx5⟩)
        go_ret2
        rw [HZ2.out]
        exact ⟨rfl, by rw [HPS.out, HZ2.out, if_neg (show ¬ (3 : Int) = 0 by decide), if_pos rfl, show 8 * n = p + k by omega]; exact hr.ext hx5, hu.trans (Upd.of_ext (S := fun x => x = gr) hx5) (fun x hx => .inl hx)⟩
    · have ek : k = 16 := by omega
      subst ek
      rw [HG0.out] at HEZ
      go_wp2_with fail
      go_ret2
      rw [HEZ.out]
      exact ⟨rfl, by rw [HPS.out, HEZ.out, if_neg (show ¬ (4 : Int) = 0 by decide), if_neg (show ¬ (4 : Int) = 3 by decide)]; exact hr, hu⟩
theorem coderGet_any (gc gr : Nat) (T : List Tok) (A : Option Addr) (n c p : Nat) (bs : List Nat) (w0 w : World) (hc : CoderS w0 gc T) (hg : w0.heap.size ≤ gr) (hbw : Below gr w0 w) (hr : RdS w gr A n c p bs) (hgw : gr < w.heap.size) :
    Calls Tryd.prog 129 #[.pointer (some ⟨gc, 0, none⟩), .pointer (some ⟨gr, 0, none⟩)] w fun e w' =>
      e = .returned (.tuple #[.int .i64 (getGo T (digsOf bs) p 16 1).1, .int .i64 (getGo T (digsOf bs) p 16 1).2.2]) ∧ ((getGo T (digsOf bs) p 16 1).2.2 = 0 → RdS w' gr A n c (getGo T (digsOf bs) p 16 1).2.1 bs) ∧ Upd (fun x => x = gr) w w' :=
  (coderGet_pos gc gr T A n c p bs w0 w hc hg hbw hr hgw).mono fun _ _ ⟨e, h1, h2⟩ => ⟨e, fun h0 => by rw [if_pos h0] at h1; exact h1, h2⟩
end Go.Proofs.YtgmddhljgfbibaaDoor
/- Files: the value and where its parts lie. -/
namespace Go.Proofs.YtgmddhljgfbibaaDoor
set_option linter.unusedVariables false
set_option linter.unusedSimpArgs false
open Go.RowKit
def fileL (wd hi pt : Int) (qs : List Int) (t1 t2 : List Value) (ev : Int) (sd : Value) : List Value := ints [wd, hi, pt] ++ ints qs ++ t1 ++ t2 ++ [.int .i64 ev, sd]
theorem sizeTbls : (Tryd.prog.info? 34).map (·.size) = some 34 := by kernel_rfl
theorem zeroTbl : (Tryd.prog.info? 32).bind (·.zero) = some (.agg (ints (List.replicate 16 0) ++ [Value.slice none 0 0]).toArray) := by kernel_rfl
theorem range_part {w : World} {g : Nat} {T : TypeId} {a m b : List Value} (h : Blk w g T (a ++ (m ++ b)).toArray) : w.rangeAt g a.length m := by
  intro j v hv
  rw [h.cell, List.getElem?_toArray, List.getElem?_append_right (by omega), Nat.add_sub_cancel_left, List.getElem?_append_left (List.getElem?_eq_some_iff.1 hv).1]
  exact hv
/-- a file lies in block g -/
structure FileB (w : World) (g : Nat) (wd hi pt : Int) (qs : List Int) (t1 t2 : List Value) (ev : Int) (sd : Value) : Prop where
  c0 : w.cell? ⟨g, 0, none⟩ = some (.int .i64 wd)
  c1 : w.cell? ⟨g, 1, none⟩ = some (.int .i64 hi)
  c2 : w.cell? ⟨g, 2, none⟩ = some (.int .i64 pt)
  q : w.rangeAt g 3 (ints qs)
  ta : w.rangeAt g 67 t1
  tb : w.rangeAt g 84 t2
  tt : w.rangeAt g 67 (t1 ++ t2)
  c101 : w.cell? ⟨g, 101, none⟩ = some (.int .i64 ev)
  c102 : w.cell? ⟨g, 102, none⟩ = some sd
theorem fileB {w : World} {g : Nat} {T : TypeId} {wd hi pt : Int} {qs : List Int} {t1 t2 : List Value} {ev : Int} {sd : Value} (h : Blk w g T (fileL wd hi pt qs t1 t2 ev sd).toArray) (hq : qs.length = 64) (h1 : t1.length = 17) (h2 : t2.length = 17) :
    FileB w g wd hi pt qs t1 t2 ev sd := by
  have hql := (ints_len qs).trans hq
  have r0 : w.rangeAt g 0 (ints [wd, hi, pt]) := range_part (a := []) (m := ints [wd, hi, pt]) (b := ints qs ++ t1 ++ t2 ++ [.int .i64 ev, sd]) (T := T) (by simpa [fileL] using h)
  have r1 := range_part (a := ints [wd, hi, pt]) (m := ints qs) (b := t1 ++ t2 ++ [.int .i64 ev, sd]) (T := T) (w := w) (g := g) (by simpa [fileL] using h)
  have r2 := range_part (a := ints [wd, hi, pt] ++ ints qs) (m := t1) (b := t2 ++ [.int .i64 ev, sd]) (T := T) (w := w) (g := g) (by simpa [fileL] using h)
  have r3 := range_part (a := ints [wd, hi, pt] ++ ints qs ++ t1) (m := t2) (b := [.int .i64 ev, sd]) (T := T) (w := w) (g := g) (by simpa [fileL] using h)
  have r4 := range_part (a := ints [wd, hi, pt] ++ ints qs) (m := t1 ++ t2) (b := [.int .i64 ev, sd]) (T := T) (w := w) (g := g) (by simpa [fileL] using h)
  have r5 := range_part (a := ints [wd, hi, pt] ++ ints qs ++ t1 ++ t2) (m := [.int .i64 ev, sd]) (b := []) (T := T) (w := w) (g := g) (by simpa [fileL] using h)
  simp only [List.length_append, hql, h1, h2, ints_len, List.length_cons, List.length_nil] at r1 r2 r3 r4 r5
  exact ⟨r0 0 _ rfl, r0 1 _ rfl, r0 2 _ rfl, r1, r2, r3, r4, r5 0 _ rfl, r5 1 _ rfl⟩
theorem fileL_len (wd hi pt : Int) (qs : List Int) (t1 t2 : List Value) (ev : Int) (sd : Value) (hq : qs.length = 64) (h1 : t1.length = 17) (h2 : t2.length = 17) : (fileL wd hi pt qs t1 t2 ev sd).toArray.size = 103 := by
  simp [fileL, ints_len, hq, h1, h2]
/-- a table's cells -/
def tblL (cs : List Int) (sl : Value) : List Value := ints cs ++ [sl]
theorem tblv_tblL (cs : List Int) (sl : Value) : tblv cs sl = (tblL cs sl).toArray := rfl
theorem tblL_len (cs : List Int) (sl : Value) (h : cs.length = 16) : (tblL cs sl).length = 17 := by simp [tblL, ints_len, h]
set_option maxRecDepth 20000 in
theorem built2 (t1 t2 : List Value) (h1 : t1.length = 17) (h2 : t2.length = 17) : Tryd.prog.builtSlice 32 2 [(0, .agg t1.toArray), (1, .agg t2.toArray)] = some (t1 ++ t2).toArray := by
  match t1, h1 with
  | [a0, a1, a2, a3, a4, a5, a6, a7, a8, a9, a10, a11, a12, a13, a14, a15, a16], _ =>
    match t2, h2 with
    | [b0, b1, b2, b3, b4, b5, b6, b7, b8, b9, b10, b11, b12, b13, b14, b15, b16], _ =>
      show _ = _
      kernel_rfl
theorem wpList_load_mid_g {P : Program} {ops : Array Oper} {rest : List Oper} {op : Oper} {a : Act} {w : World} {Q : Exit → Act → World → Prop} (hw : Region.wanted op (yielded ops a.tmps) = true) (ty : TypeId) (x : Operand) (ho : op.op = .load ty x)
    (b o : Nat) (hx : a.eval x = .pointer (some ⟨b, o, none⟩)) (cs : List Value) (d : TypeDesc) (hc : w.rangeAt b o cs)
    (hu : P.underlying ty = some d) (hd : d.isRow = true) (hi : (P.info? ty).map (·.size) = some cs.length)
    (h : wpList P ops Q rest (a.put op.dst (.agg cs.toArray)) w) : wpList P ops Q (op :: rest) a w :=
  wpList_wanted hw fun _ hK => wp_load_mid ty x ho b o hx cs d hc hu hd hi (hK _ _ h)
theorem range_two {w : World} {g : Nat} {T : TypeId} {t1 t2 : List Value} (h1 : t1.length = 17) (h : Blk w g T (t1 ++ t2).toArray) : w.rangeAt g 0 t1 ∧ w.rangeAt g 17 t2 := by
  refine ⟨range_part (a := []) (m := t1) (b := t2) (T := T) (by simpa using h), ?_⟩
  have := range_part (a := t1) (m := t2) (b := []) (T := T) (w := w) (g := g) (by simpa using h)
  rwa [h1] at this
/-- the results of Check -/
def argsOK (wd hi pt ev : Int) : Bool := inB wd 1 64 && inB hi 1 64 && (pt == 1 || pt == 3) && inB ev 0 100
def fcheckZ (wd hi pt : Int) (qs : List Int) (z1 z2 : Int) (ev : Int) (n : Nat) : Int :=
  if argsOK wd hi pt ev && allIn qs 1 255 then (if z1 = 0 then (if z2 = 0 then (if 90000 < n then 2 else 0) else z2) else z1) else 1
end Go.Proofs.YtgmddhljgfbibaaDoor
/- table.NewCoder, Coder.Put. -/
namespace Go.Proofs.YtgmddhljgfbibaaDoor
set_option linter.unusedVariables false
set_option linter.unusedSimpArgs false
open Go.RowKit Go.Maps Go.WideMaps
set_option maxRecDepth 20000 in
set_option maxHeartbeats 1000000 in
theorem newCoder_any (cs xs : List Int) (sl : Value) (w : World) (hl : cs.length = 16) (hs : SL w 1 sl xs.length (ints xs)) (h : checkZ cs xs = 0) :
    Calls Tryd.prog 54 #[.agg (tblv cs sl)] w fun e w' => ∃ gc, e = .returned (.pointer (some ⟨gc, 0, none⟩)) ∧ CoderS w' gc (zipC (codesW cs 16) xs) ∧ Ext w w' := by
  obtain ⟨q1, q2, q3, q4, q5, q6⟩ := checkZ_zero h
  have HW := hid_ (fun W h => words_any cs xs sl W hl h q1 q4 q2 q3)
  have hts := hid_ (tblv_size cs sl hl)
  have hlen : (codesW cs 16).length = xs.length := by have := codesW_len cs (fun z hz => (allIn_iff.1 q1 z hz).1) 16 (by omega); omega
  have hZl : (zipC (codesW cs 16) xs).length = xs.length := by rw [zipC_len _ _ (by omega), hlen]
  have HAP := hid_ (zipC_apart cs xs q6 hlen)
  have HFIT := hid_ (codesW_fit cs q4 hl 16 (by omega))
  have HIN := hid_ (allIn_iff.1 q5)
  have HAT := hid_ (fun k (h1 : k < (codesW cs 16).length) (h2 : k < xs.length) hk => zipC_at (codesW cs 16) xs k h1 h2 hk)
  have hmm := @run_makeMap Tryd.prog
  generalize tblv cs sl = tv at *
  have HBD : Hid (∀ k (hk : k < (zipC (codesW cs 16) xs).length), 0 ≤ ((zipC (codesW cs 16) xs)[k]).1 ∧ ((zipC (codesW cs 16) xs)[k]).1 ≤ 255 ∧ okP ((zipC (codesW cs 16) xs)[k]).2) := hid_ (fun k hk => by
    have hk1 : k < (codesW cs 16).length := by omega
    have hk2 : k < xs.length := by omega
    rw [HAT.out k hk1 hk2 hk]
    have h1 := HIN.out _ (List.getElem_mem hk2)
    obtain ⟨f1, f2, f3⟩ := HFIT.out _ (List.getElem_mem hk1)
    have h2 := Nat.pow_le_pow_right (n := 2) (by omega) f2
    refine ⟨h1.1, h1.2, ⟨by simp only; omega, by simp only; omega⟩, by simp only; omega, by simp only; omega⟩)
  clear HAT HIN HFIT hlen
  generalize zipC (codesW cs 16) xs = Z at *
  have HZL := hid_ hZl
  clear h q1 q2 q4 q5 q6 hZl
  go_enter Tryd.func54, Tryd.ntmps54
  go_wp2_with (first
    | (refine wpList_box_abs rfl 32 (.tmp 0) rfl tv rfl ?_; intro w1 g hb1 hx1 hg; have hs1 := hs.ext hx1)
    | (refine wpList_box_abs rfl 122 (.tmp 8) rfl _ rfl ?_; intro w3 gc hbc hx3 hgc; have hb3 := ((hb1.alloc (.map #[] 0)).alloc (.map #[] 0)).ext hx3; have hs3 := (hs1.ext (((Ext.refl w1).alloc (.map #[] 0)).alloc (.map #[] 0))).ext hx3)
    | (refine wpList_load_blk rfl 32 (.tmp 1) rfl _ rfl hb3 _ Tryd.underlying32 rfl 17 sizeTbl hts.out ?_)
    | (go_at_call 78; (with_reducible refine (HW.out _ hs3).mono ?_); rintro e w4 ⟨A, c, rfl, hsl, hfr, hx4⟩))
  have hm1 : MapI Tryd.prog 3 w4 w1.heap.size 0 (symF []) := (((MapG.made w1).alloc (.map #[] 0)).ext hx3).ext hx4
  have hm2 : MapP w4 (w1.heap.size + 1) 0 (codeF []) := by
    have := (((MapG.made (P := Tryd.prog) (k := 150) (kl := klP) (ok := okP) (w1.alloc (.map #[] 0))).ext hx3).ext hx4)
    rwa [World.size_alloc] at this
  have hbc4 := hbc.ext hx4
  have hxw : Ext w w4 := ((((hx1.alloc (.map #[] 0)).alloc (.map #[] 0)).trans hx3).trans hx4)
  have hz1 := hx1.size
  have hz3 := hx3.size
  simp only [World.size_alloc] at hz3 hgc
  have hz4 := hx4.size
  have hc1 : xs.length ≤ c ∧ c ≤ 9223372036854775807 := by obtain ⟨A', c', e, h1, h2, -⟩ := hsl; injection e with e1 e2 e3; subst e3; exact ⟨h1, h2⟩
  obtain ⟨hc1, hc2⟩ := hc1
  generalize hM : w1.heap.size = M at *
  clear hM hmm hb1 hb3 hs1 hs3 hbc hx1 hx3 hx4 hs
  go_loopw [13] (fun i wr => ∃ k : Nat, k ≤ xs.length ∧ i = .int .i64 (k : Int) ∧ MapI Tryd.prog 3 wr M k (symF (Z.take k)) ∧ MapP wr (M + 1) k (codeF (Z.take k)) ∧ Upd (fun b => b = M ∨ b = M + 1) w4 wr) (fun i _ => xs.length - (intOf i).toNat)
  case atStart => exact ⟨0, by omega, rfl, hm1, hm2, Upd.refl _ _⟩
  case round =>
    clear hm1 hm2
    obtain ⟨k, hk, rfl, hm1, hm2, hu⟩ := hrel
    by_cases hlt : k < xs.length
    · have hkZ : k < Z.length := by have := HZL.out; omega
      have hslr := hsl.upd hu (fun ad h => by have := hfr ad h; omega)
      obtain ⟨ad, rfl, hbl, h1, h2, h3⟩ := hslr.tok hlt HZL.out hkZ
      have hbcr := hu.blk hbc4 (by omega)
      obtain ⟨a1, a2⟩ := HAP.out k hkZ
      obtain ⟨b1, b2, b3⟩ := HBD.out k hkZ
      have HS1 := hid_ (symF_snoc_same (Z.take k) Z[k] a1)
      have HS2 := hid_ (fun s => symF_snoc_other (Z.take k) Z[k] s)
      have HC1 := hid_ (codeF_snoc_same (Z.take k) Z[k] a2)
      have HC2 := hid_ (fun p => codeF_snoc_other (Z.take k) Z[k] p)
      have HTS := hid_ (toks_take_succ Z k hkZ)
      generalize Z[k] = t at *
      obtain ⟨t1, t2, t3⟩ := t
      simp only at b1 b2
      clear a1 a2
      have hkey1 := hid_ (keyOf_i64 (P := Tryd.prog) Tryd.underlying3 (a := t1) (by omega) (by omega))
      have hkey2 := hid_ (keyOf_P (t2, t3) b3)
      have HB3 := hid_ b3
      clear b3
      simp only at h1 h2 h3
      go_wp2_with fail
      have hn := Blk.new wr 117 #[.int .i64 t1, .int .i64 t2, .int .i64 t3]
      have hxa := Ext.alloc (Ext.refl wr) (.cells #[.int .i64 t1, .int .i64 t2, .int .i64 t3] 117)
      have hm1a := hm1.alloc (.cells #[.int .i64 t1, .int .i64 t2, .int .i64 t3] 117)
      have hm2a := hm2.alloc (.cells #[.int .i64 t1, .int .i64 t2, .int .i64 t3] 117)
      have hbca := hbcr.ext hxa
      have hua := hu.trans (Upd.of_ext (S := fun _ => False) hxa) (fun x hx => hx.elim)
      have hnz : wr.heap.size ≠ M ∧ wr.heap.size ≠ M + 1 := by have := hm1.lt; have := hm2.lt; omega
      generalize hw2 : wr.alloc (.cells #[.int .i64 t1, .int .i64 t2, .int .i64 t3] 117) = w5 at *
      generalize wr.heap.size = gn at *
      clear hw2 h1 h2 h3 hxa hm1 hm2 hbcr hu hslr
      have hcv : ∀ W, Blk W gn 117 #[.int .i64 t1, .int .i64 t2, .int .i64 t3] → W.cell? ⟨gn, 0, none⟩ = some (.int .i64 t1) ∧ W.cell? ⟨gn, 1, none⟩ = some (.int .i64 t2) ∧ W.cell? ⟨gn, 2, none⟩ = some (.int .i64 t3) := fun W h => ⟨h.cell 0, h.cell 1, h.cell 2⟩
      have hcc : ∀ W, Blk W gc 122 #[.map (some M), .map (some (M + 1))] → W.cell? ⟨gc, 0, none⟩ = some (.map (some M)) ∧ W.cell? ⟨gc, 1, none⟩ = some (.map (some (M + 1))) := fun W h => ⟨h.cell 0, h.cell 1⟩
      have HCV := hid_ hcv
      have HCC := hid_ hcc
      clear hcv hcc
      obtain ⟨n1, n2, n3⟩ := HCV.out _ hn
      obtain ⟨g1, g2⟩ := HCC.out _ hbca
      refine wp_region_lxt later_eq 7 (by kernel_rfl) (by kernel_rfl) ?_
      simp only [List.take_succ_cons, List.take_zero]
      iterate 7 (refine lx_ex (by rfl) ?_; apply Exists.intro; refine ⟨fun w hw => ?_, ?_⟩; · (subst hw; go_simp; with_reducible rfl)
                 simp only [Act.put, List.setIfInBounds_toArray, List.set_cons_succ, List.set_cons_zero])
      refine lx_nil ?_
      rintro w6 rfl
      try simp only [List.drop_succ_cons, List.drop_zero]
      clear n1 n2 n3 g1 g2
      have hm1d := hm1a.ext (w' := w5.drew) (Ext.refl w5).drew
      have hm2d := hm2a.ext (w' := w5.drew) (Ext.refl w5).drew
      go_wp2_with (at_mapUpdate; refine wpList_upd_g (by rfl) _ _ _ 119 117 rfl keyed_int Tryd.underlying119 rfl hm1d (by omega) _ rfl _ rfl t1 hkey1.out (symF (Z.take k ++ [(t1, t2, t3)])) HS1.out (fun j _ hj => HS2.out j (fun e => hj (by rw [e]))) (fun j _ hj => by injection hj) ?_; intro w7 hm7 hg7)
      have hn7 := hn.drew.grown hg7 (by simp; omega)
      have hb7 := hbca.drew.grown hg7 (by simp; omega)
      have hm27 := hm2d.grown hg7 (by simp)
      have hu7 := hua.drew.grown hg7 (fun b hb => .inl (by injection hb with hb; exact .inl hb.symm))
      obtain ⟨n1, n2, n3⟩ := HCV.out _ hn7
      obtain ⟨g1, g2⟩ := HCC.out _ hb7
      clear hm1d hm2d hm1a hm2a hua hg7
      simp only [Act.put, List.setIfInBounds_toArray, List.set_cons_succ, List.set_cons_zero]
      refine wp_region_lxt later_eq 11 (by kernel_rfl) (by kernel_rfl) ?_
      simp only [List.take_succ_cons, List.take_zero]
      iterate 11 (refine lx_ex (by rfl) ?_; apply Exists.intro; refine ⟨fun w hw => ?_, ?_⟩; · (subst hw; go_simp; with_reducible rfl)
                  simp only [Act.put, List.setIfInBounds_toArray, List.set_cons_succ, List.set_cons_zero])
      refine lx_nil ?_
      rintro w8 rfl
      try simp only [List.drop_succ_cons, List.drop_zero]
      clear n1 n2 n3 g1 g2
      have hm2e := hm27.ext (w' := w7.drew) (Ext.refl w7).drew
      have hm1e := hm7.ext (w' := w7.drew) (Ext.refl w7).drew
      go_wp2_with (at_mapUpdate; refine wpList_upd_g (by rfl) _ _ _ 120 3 rfl keyed_pair Tryd.underlying120 rfl hm2e (by omega) _ rfl _ rfl (t2, t3) hkey2.out (codeF (Z.take k ++ [(t1, t2, t3)])) HC1.out (fun j hj0 hj => HC2.out j (fun e => hj (by rw [e]))) (fun j hj0 hj => klP_inj hj0 HB3.out hj) ?_; intro w9 hm9 hg9)
      go_roundw
      case rel =>
        refine ⟨k + 1, by omega, by go_num, ?_, ?_, ?_⟩
        · rw [HTS.out]; exact hm1e.grown hg9 (by simp)
        · rw [HTS.out]; exact hm9
        · exact hu7.drew.grown hg9 (fun b hb => .inl (by injection hb with hb; exact .inr hb.symm))
      case measure => simp [intOf]; omega
    · have ek : k = xs.length := by omega
      have HF : Hid (Z.take k = Z) := hid_ (List.take_of_length_le (by have := HZL.out; omega))
      rw [HF.out] at hm1 hm2
      go_wp2_with fail
      go_ret
      exact ⟨gc, rfl, ⟨M, M + 1, k, hu.blk hbc4 (by omega), hm1, hm2⟩, hu.ext hxw (by omega)⟩
end Go.Proofs.YtgmddhljgfbibaaDoor
/- seg.made: the coders of both tables. -/
namespace Go.Proofs.YtgmddhljgfbibaaDoor
set_option linter.unusedVariables false
set_option linter.unusedSimpArgs false
open Go.RowKit
section
variable {P : Program} {o : Oper} {a : Act}
theorem ex_build1 {t : TypeId} {x : Operand} (ho : o.op = .build t #[(0, x)]) {vx : Value} (hx : a.eval x = vx) {cs : Array Value} (hf : P.built t [(0, vx)] = some cs) (w : World) : (execOp a.eval o).run P w = .ok (.value (.agg cs)) w := by
  simp only [execOp, ho, Sem.run_bind, run_build w t (#[(0, x)].map fun (i, x) => (i, a.eval x)) cs (by simpa [hx] using hf), Result.andThen_ok, Sem.run_pure]
theorem ex_build2 {t : TypeId} {x y : Operand} (ho : o.op = .build t #[(0, x), (1, y)]) {vx vy : Value} (hx : a.eval x = vx) (hy : a.eval y = vy) {cs : Array Value} (hf : P.built t [(0, vx), (1, vy)] = some cs) (w : World) : (execOp a.eval o).run P w = .ok (.value (.agg cs)) w := by
  simp only [execOp, ho, Sem.run_bind, run_build w t (#[(0, x), (1, y)].map fun (i, x) => (i, a.eval x)) cs (by simpa [hx, hy] using hf), Result.andThen_ok, Sem.run_pure]
end
theorem builtCoders (p q : Addr) : Tryd.prog.built 115 [(0, .pointer (some p)), (1, .pointer (some q))] = some #[.pointer (some p), .pointer (some q)] := by
  show _ = _
  kernel_rfl
theorem goesNew : Goes Tryd.prog 54 := ⟨_, Tryd.func54, by kernel_rfl, by kernel_rfl⟩
section
variable {P : Program} {o : Oper} {a : Act}
theorem ex_loadMid {ty : TypeId} {x : Operand} (ho : o.op = .load ty x) {b off : Nat} (hx : a.eval x = .pointer (some ⟨b, off, none⟩)) {cs : List Value} {w : World} (hc : w.rangeAt b off cs) {d : TypeDesc} (hu : P.underlying ty = some d) (hd : d.isRow = true) (hi : (P.info? ty).map (·.size) = some cs.length) :
    (execOp a.eval o).run P w = .ok (.value (.agg cs.toArray)) w := by
  simp only [execOp, ho, hx, Sem.run_bind, run_loadAt_mid w b off ty cs d hc hu hd hi, Result.andThen_ok, Sem.run_pure]
end
set_option maxRecDepth 20000 in
set_option maxHeartbeats 4000000 in
theorem made_bad (t1 t2 : List Value) (z1 z2 : Int) (w : World) (h1 : t1.length = 17) (h2 : t2.length = 17)
    (o1 : t1.toArray.all (·.oneCell') = true) (o2 : t2.toArray.all (·.oneCell') = true)
    (C1 : ∀ W, Ext w W → Calls Tryd.prog 48 #[.agg t1.toArray] W fun e W' => e = .returned (.int .i64 z1) ∧ Ext W W')
    (C2 : ∀ W, Ext w W → Calls Tryd.prog 48 #[.agg t2.toArray] W fun e W' => e = .returned (.int .i64 z2) ∧ Ext W W')
    (hne : (if z1 = 0 then z2 else z1) ≠ 0) :
    Calls Tryd.prog 22 #[.agg (t1 ++ t2).toArray] w fun e w' => e = .returned (.tuple #[.pointer none, .int .i64 (if z1 = 0 then z2 else z1)]) ∧ Ext w w' := by
  have hl1 := hid_ h1
  have hl2 := hid_ h2
  have HB2 := hid_ (built2 t1 t2 h1 h2)
  have HRT := hid_ (fun W g (hb : Blk W g 32 (t1 ++ t2).toArray) => range_two h1 hb)
  have HRU := hid_ (fun W g (hb : Blk W g 34 (t1 ++ t2).toArray) => range_two h1 hb)
  have hs1 : Hid (t1.toArray.size = 17) := hid_ (by simpa using h1)
  have hs2 : Hid (t2.toArray.size = 17) := hid_ (by simpa using h2)
  have hz17 : Hid ((ints (List.replicate 16 0) ++ [Value.slice none 0 0]).toArray.size = 17) := hid_ (by simp [ints])
  have hl3 : Hid ((t1 ++ t2).toArray.size = 34) := hid_ (by simp [h1, h2])
  have HO1 := hid_ o1
  have HO2 := hid_ o2
  have HC1 := hid_ C1
  have HC2 := hid_ C2
  clear o1 o2 C1 C2 h1 h2
  generalize hR : (if z1 = 0 then z2 else z1) = R at *
  have HR := hid_ hR
  have HNE := hid_ hne
  clear hR hne
  go_enter Tryd.func22, Tryd.ntmps22
  go_wp2_with (first
    | (show wpList _ _ _ (⟨some 1, _, _, _, _, _⟩ :: _) _ _; refine wpList_box_abs rfl 34 (.tmp 0) rfl (t1 ++ t2).toArray rfl ?_; intro w1 g hb1 hx1 hg; have hr1 := HRU.out _ _ hb1)
    | (show wpList _ _ _ (⟨some 8, _, _, _, _, _⟩ :: _) _ _; refine wpList_load_mid rfl 32 (.tmp 7) rfl g 0 rfl t1 _ hr1.1 Tryd.underlying32 rfl (by rw [hl1.out]; exact sizeTbl) ?_)
    | (show wpList _ _ _ (⟨some 10, _, _, _, _, _⟩ :: _) _ _; refine wpList_load_mid rfl 32 (.tmp 9) rfl g 17 rfl t2 _ hr1.2 Tryd.underlying32 rfl (by rw [hl2.out]; exact sizeTbl) ?_)
    | (show wpList _ _ _ (⟨some 11, _, _, _, _, _⟩ :: _) _ _; refine Go.Great.wpList_buildSliceTo rfl 102 32 2 _ rfl _ rfl (some 11) rfl Tryd.underlying102 _ (by simp [Act.eval]; exact HB2.out) ?_))
  have hbn0 := Blk.new w1 32 (t1 ++ t2).toArray
  have hb3 := hb1.alloc (.cells (t1 ++ t2).toArray 32)
  have hx3 := hx1.alloc (.cells (t1 ++ t2).toArray 32)
  clear hb1 hr1 hx1
  go_loopw [13] (fun i wr => ∃ k : Nat, k ≤ 2 ∧ i = .int .i64 (k : Int) ∧ (1 ≤ k → z1 = 0) ∧ (2 ≤ k → z2 = 0) ∧ Blk wr g 34 (t1 ++ t2).toArray ∧ Blk wr w1.heap.size 32 (t1 ++ t2).toArray ∧ Ext w wr) (fun i _ => 2 - (intOf i).toNat)
  case atStart => exact ⟨0, by omega, rfl, fun h => absurd h (by omega), fun h => absurd h (by omega), hb3, hbn0, hx3⟩
  case round =>
    clear hb3 hbn0 hx3
    obtain ⟨k, hk, rfl, e1, e2, hb, hbn, hx⟩ := hrel
    rcases (by omega : k = 0 ∨ k = 1 ∨ k = 2) with rfl | rfl | rfl
    · have hr := (HRT.out _ _ hbn).1
      by_cases hz : z1 = 0
      · subst hz
        go_wp2_with (first
          | (show wpList _ _ _ (⟨some 16, _, _, _, _, _⟩ :: _) _ _; refine wpList_load_mid rfl 32 (.tmp 15) rfl _ 0 rfl t1 _ hr Tryd.underlying32 rfl (by rw [hl1.out]; exact sizeTbl) ?_)
          | (show wpList _ _ _ (⟨some 5, _, _, _, _, _⟩ :: _) _ _; refine wpList_alloc_abs' rfl (some 5) rfl 32 rfl _ zeroTbl ?_; intro w4 ga hba4 hx4 hga)
          | (show wpList _ _ _ (⟨none, .store _ (.tmp 5) (.tmp 16), _, _, _, _⟩ :: _) _ _; refine wpList_store_blk rfl 32 (.tmp 5) (.tmp 16) rfl _ _ rfl rfl hba4 17 sizeTbl hs1.out hz17.out HO1.out ?_; intro w5 hba5 hg5; have hx5 := (hx.trans hx4).grown hg5 (by have := hx.size; omega))
          | (show wpList _ _ _ (⟨some 17, _, _, _, _, _⟩ :: _) _ _; refine wpList_load_blk rfl 32 (.tmp 5) rfl _ rfl hba5 _ Tryd.underlying32 rfl 17 sizeTbl hs1.out ?_)
          | (go_at_call 48; (with_reducible refine (HC1.out _ hx5).mono ?_); rintro e w6 ⟨rfl, hx6⟩))
        go_roundw
        case rel => exact ⟨1, by omega, by go_num, by simp, fun h => absurd h (by omega), ((hb.ext hx4).grown hg5 (by have := hb.lt; simp; omega)).ext hx6, ((hbn.ext hx4).grown hg5 (by have := hbn.lt; simp; omega)).ext hx6, hx5.trans hx6⟩
        case measure => simp [intOf]
      · have hz1 : (z1 != 0) = true := by simpa using hz
        have HZ := hid_ hz
        clear hz
        go_wp2_with (first
          | (show wpList _ _ _ (⟨some 16, _, _, _, _, _⟩ :: _) _ _; refine wpList_load_mid rfl 32 (.tmp 15) rfl _ 0 rfl t1 _ hr Tryd.underlying32 rfl (by rw [hl1.out]; exact sizeTbl) ?_)
          | (show wpList _ _ _ (⟨some 5, _, _, _, _, _⟩ :: _) _ _; refine wpList_alloc_abs' rfl (some 5) rfl 32 rfl _ zeroTbl ?_; intro w4 ga hba4 hx4 hga)
          | (show wpList _ _ _ (⟨none, .store _ (.tmp 5) (.tmp 16), _, _, _, _⟩ :: _) _ _; refine wpList_store_blk rfl 32 (.tmp 5) (.tmp 16) rfl _ _ rfl rfl hba4 17 sizeTbl hs1.out hz17.out HO1.out ?_; intro w5 hba5 hg5; have hx5 := (hx.trans hx4).grown hg5 (by have := hx.size; omega))
          | (show wpList _ _ _ (⟨some 17, _, _, _, _, _⟩ :: _) _ _; refine wpList_load_blk rfl 32 (.tmp 5) rfl _ rfl hba5 _ Tryd.underlying32 rfl 17 sizeTbl hs1.out ?_)
          | (go_at_call 48; (with_reducible refine (HC1.out _ hx5).mono ?_); rintro e w6 ⟨rfl, hx6⟩))
        refine bodyPost_ret (results_tmp2 rfl _ _ _) rfl ?_
        exact ⟨by rw [← HR.out, if_neg HZ.out]; rfl, hx5.trans hx6⟩
    · have hr := (HRT.out _ _ hbn).2
      have hz0 := e1 (by omega)
      have hz2 : z2 = R := by rw [← HR.out, if_pos hz0]
      have hzb : (z2 != 0) = true := by rw [hz2]; simpa using HNE.out
      have HZ2 := hid_ hz2
      clear hz0 e1 e2 hz2
      go_wp2_with (first
        | (show wpList _ _ _ (⟨some 16, _, _, _, _, _⟩ :: _) _ _; refine wpList_load_mid rfl 32 (.tmp 15) rfl _ 17 rfl t2 _ hr Tryd.underlying32 rfl (by rw [hl2.out]; exact sizeTbl) ?_)
        | (show wpList _ _ _ (⟨some 5, _, _, _, _, _⟩ :: _) _ _; refine wpList_alloc_abs' rfl (some 5) rfl 32 rfl _ zeroTbl ?_; intro w4 ga hba4 hx4 hga)
        | (show wpList _ _ _ (⟨none, .store _ (.tmp 5) (.tmp 16), _, _, _, _⟩ :: _) _ _; refine wpList_store_blk rfl 32 (.tmp 5) (.tmp 16) rfl _ _ rfl rfl hba4 17 sizeTbl hs2.out hz17.out HO2.out ?_; intro w5 hba5 hg5; have hx5 := (hx.trans hx4).grown hg5 (by have := hx.size; omega))
        | (show wpList _ _ _ (⟨some 17, _, _, _, _, _⟩ :: _) _ _; refine wpList_load_blk rfl 32 (.tmp 5) rfl _ rfl hba5 _ Tryd.underlying32 rfl 17 sizeTbl hs2.out ?_)
        | (go_at_call 48; (with_reducible refine (HC2.out _ hx5).mono ?_); rintro e w6 ⟨rfl, hx6⟩))
      refine bodyPost_ret (results_tmp2 rfl _ _ _) rfl ?_
      exact ⟨by rw [← HZ2.out]; rfl, hx5.trans hx6⟩
    · exact absurd (by rw [← HR.out, if_pos (e1 (by omega)), e2 (by omega)]) HNE.out
set_option maxRecDepth 20000 in
set_option maxHeartbeats 4000000 in
theorem made_good (T1 T2 : List Tok) (t1 t2 : List Value) (w : World) (h1 : t1.length = 17) (h2 : t2.length = 17)
    (o1 : t1.toArray.all (·.oneCell') = true) (o2 : t2.toArray.all (·.oneCell') = true)
    (C1 : ∀ W, Ext w W → Calls Tryd.prog 48 #[.agg t1.toArray] W fun e W' => e = .returned (.int .i64 0) ∧ Ext W W')
    (C2 : ∀ W, Ext w W → Calls Tryd.prog 48 #[.agg t2.toArray] W fun e W' => e = .returned (.int .i64 0) ∧ Ext W W')
    (N1 : ∀ W, Ext w W → Calls Tryd.prog 54 #[.agg t1.toArray] W fun e W' => ∃ gc, e = .returned (.pointer (some ⟨gc, 0, none⟩)) ∧ CoderS W' gc T1 ∧ Ext W W')
    (N2 : ∀ W, Ext w W → Calls Tryd.prog 54 #[.agg t2.toArray] W fun e W' => ∃ gc, e = .returned (.pointer (some ⟨gc, 0, none⟩)) ∧ CoderS W' gc T2 ∧ Ext W W') :
    Calls Tryd.prog 22 #[.agg (t1 ++ t2).toArray] w fun e w' => ∃ gk gc1 gc2, e = .returned (.tuple #[.pointer (some ⟨gk, 0, none⟩), .int .i64 0]) ∧ Blk w' gk 115 #[.pointer (some ⟨gc1, 0, none⟩), .pointer (some ⟨gc2, 0, none⟩)] ∧ CoderS w' gc1 T1 ∧ CoderS w' gc2 T2 ∧ Ext w w' := by
  have HN1 := hid_ N1
  have HN2 := hid_ N2
  clear N1 N2
  have hl1 := hid_ h1
  have hl2 := hid_ h2
  have HB2 := hid_ (built2 t1 t2 h1 h2)
  have HRT := hid_ (fun W g (hb : Blk W g 32 (t1 ++ t2).toArray) => range_two h1 hb)
  have HRU := hid_ (fun W g (hb : Blk W g 34 (t1 ++ t2).toArray) => range_two h1 hb)
  have hs1 : Hid (t1.toArray.size = 17) := hid_ (by simpa using h1)
  have hs2 : Hid (t2.toArray.size = 17) := hid_ (by simpa using h2)
  have hz17 : Hid ((ints (List.replicate 16 0) ++ [Value.slice none 0 0]).toArray.size = 17) := hid_ (by simp [ints])
  have hl3 : Hid ((t1 ++ t2).toArray.size = 34) := hid_ (by simp [h1, h2])
  have HO1 := hid_ o1
  have HO2 := hid_ o2
  have HC1 := hid_ C1
  have HC2 := hid_ C2
  clear o1 o2 C1 C2 h1 h2
  go_enter Tryd.func22, Tryd.ntmps22
  go_wp2_with (first
    | (show wpList _ _ _ (⟨some 1, _, _, _, _, _⟩ :: _) _ _; refine wpList_box_abs rfl 34 (.tmp 0) rfl (t1 ++ t2).toArray rfl ?_; intro w1 g hb1 hx1 hg; have hr1 := HRU.out _ _ hb1)
    | (show wpList _ _ _ (⟨some 8, _, _, _, _, _⟩ :: _) _ _; refine wpList_load_mid rfl 32 (.tmp 7) rfl g 0 rfl t1 _ hr1.1 Tryd.underlying32 rfl (by rw [hl1.out]; exact sizeTbl) ?_)
    | (show wpList _ _ _ (⟨some 10, _, _, _, _, _⟩ :: _) _ _; refine wpList_load_mid rfl 32 (.tmp 9) rfl g 17 rfl t2 _ hr1.2 Tryd.underlying32 rfl (by rw [hl2.out]; exact sizeTbl) ?_)
    | (show wpList _ _ _ (⟨some 11, _, _, _, _, _⟩ :: _) _ _; refine Go.Great.wpList_buildSliceTo rfl 102 32 2 _ rfl _ rfl (some 11) rfl Tryd.underlying102 _ (by simp [Act.eval]; exact HB2.out) ?_))
  have hbn0 := Blk.new w1 32 (t1 ++ t2).toArray
  have hb3 := hb1.alloc (.cells (t1 ++ t2).toArray 32)
  have hx3 := hx1.alloc (.cells (t1 ++ t2).toArray 32)
  clear hb1 hr1 hx1
  go_loopw [13] (fun i wr => ∃ k : Nat, k ≤ 2 ∧ i = .int .i64 (k : Int) ∧ Blk wr g 34 (t1 ++ t2).toArray ∧ Blk wr w1.heap.size 32 (t1 ++ t2).toArray ∧ Ext w wr) (fun i _ => 2 - (intOf i).toNat)
  case atStart => exact ⟨0, by omega, rfl, hb3, hbn0, hx3⟩
  case round =>
    clear hb3 hbn0 hx3
    obtain ⟨k, hk, rfl, hb, hbn, hx⟩ := hrel
    rcases (by omega : k = 0 ∨ k = 1 ∨ k = 2) with rfl | rfl | rfl
    · have hr := (HRT.out _ _ hbn).1
      go_wp2_with (first
        | (show wpList _ _ _ (⟨some 16, _, _, _, _, _⟩ :: _) _ _; refine wpList_load_mid rfl 32 (.tmp 15) rfl _ 0 rfl t1 _ hr Tryd.underlying32 rfl (by rw [hl1.out]; exact sizeTbl) ?_)
        | (show wpList _ _ _ (⟨some 5, _, _, _, _, _⟩ :: _) _ _; refine wpList_alloc_abs' rfl (some 5) rfl 32 rfl _ zeroTbl ?_; intro w4 ga hba4 hx4 hga)
        | (show wpList _ _ _ (⟨none, .store _ (.tmp 5) (.tmp 16), _, _, _, _⟩ :: _) _ _; refine wpList_store_blk rfl 32 (.tmp 5) (.tmp 16) rfl _ _ rfl rfl hba4 17 sizeTbl hs1.out hz17.out HO1.out ?_; intro w5 hba5 hg5; have hx5 := (hx.trans hx4).grown hg5 (by have := hx.size; omega))
        | (show wpList _ _ _ (⟨some 17, _, _, _, _, _⟩ :: _) _ _; refine wpList_load_blk rfl 32 (.tmp 5) rfl _ rfl hba5 _ Tryd.underlying32 rfl 17 sizeTbl hs1.out ?_)
        | (go_at_call 48; (with_reducible refine (HC1.out _ hx5).mono ?_); rintro e w6 ⟨rfl, hx6⟩))
      go_roundw
      case rel => exact ⟨1, by omega, by go_num, ((hb.ext hx4).grown hg5 (by have := hb.lt; simp; omega)).ext hx6, ((hbn.ext hx4).grown hg5 (by have := hbn.lt; simp; omega)).ext hx6, hx5.trans hx6⟩
      case measure => simp [intOf]
    · have hr := (HRT.out _ _ hbn).2
      go_wp2_with (first
        | (show wpList _ _ _ (⟨some 16, _, _, _, _, _⟩ :: _) _ _; refine wpList_load_mid rfl 32 (.tmp 15) rfl _ 17 rfl t2 _ hr Tryd.underlying32 rfl (by rw [hl2.out]; exact sizeTbl) ?_)
        | (show wpList _ _ _ (⟨some 5, _, _, _, _, _⟩ :: _) _ _; refine wpList_alloc_abs' rfl (some 5) rfl 32 rfl _ zeroTbl ?_; intro w4 ga hba4 hx4 hga)
        | (show wpList _ _ _ (⟨none, .store _ (.tmp 5) (.tmp 16), _, _, _, _⟩ :: _) _ _; refine wpList_store_blk rfl 32 (.tmp 5) (.tmp 16) rfl _ _ rfl rfl hba4 17 sizeTbl hs2.out hz17.out HO2.out ?_; intro w5 hba5 hg5; have hx5 := (hx.trans hx4).grown hg5 (by have := hx.size; omega))
        | (show wpList _ _ _ (⟨some 17, _, _, _, _, _⟩ :: _) _ _; refine wpList_load_blk rfl 32 (.tmp 5) rfl _ rfl hba5 _ Tryd.underlying32 rfl 17 sizeTbl hs2.out ?_)
        | (go_at_call 48; (with_reducible refine (HC2.out _ hx5).mono ?_); rintro e w6 ⟨rfl, hx6⟩))
      go_roundw
      case rel => exact ⟨2, by omega, by go_num, ((hb.ext hx4).grown hg5 (by have := hb.lt; simp; omega)).ext hx6, ((hbn.ext hx4).grown hg5 (by have := hbn.lt; simp; omega)).ext hx6, hx5.trans hx6⟩
      case measure => simp [intOf]
    · have HRD := hid_ (fun W (h : Ext wr W) => HRU.out W g (hb.ext h))
      clear hb hbn
      go_wp2_with fail
      have hI : Ext wr wr.drew := (Ext.refl wr).drew
      refine wp_region_oi (Ext wr) (by kernel_rfl) ?_
      refine oi_run (k := 0) (by kernel_rfl) rfl (by rfl) (.pointer (some ⟨g, 0, none⟩)) (fun w => by go_simp) hI ?_
      simp only [Act.put, List.setIfInBounds_toArray, List.set_cons_succ, List.set_cons_zero]
      refine oi_fix (k := 1) (by kernel_rfl) rfl (by rfl) (.agg t1.toArray) (fun W hW => ex_loadMid rfl rfl (HRD.out W hW).1 Tryd.underlying32 rfl (by rw [hl1.out]; exact sizeTbl)) hI ?_
      simp only [Act.put, List.setIfInBounds_toArray, List.set_cons_succ, List.set_cons_zero]
      refine oi_run (k := 3) (by kernel_rfl) rfl (by rfl) (.pointer (some ⟨g, 17, none⟩)) (fun w => by go_simp) hI ?_
      simp only [Act.put, List.setIfInBounds_toArray, List.set_cons_succ, List.set_cons_zero]
      refine oi_fix (k := 4) (by kernel_rfl) rfl (by rfl) (.agg t2.toArray) (fun W hW => ex_loadMid rfl rfl (HRD.out W hW).2 Tryd.underlying32 rfl (by rw [hl2.out]; exact sizeTbl)) hI ?_
      simp only [Act.put, List.setIfInBounds_toArray, List.set_cons_succ, List.set_cons_zero]
      refine oi_loud (k := 2) (by kernel_rfl) rfl ?_
      refine wl_enter (by rfl) (run_callv _ _ _ rfl rfl goesNew #[.agg t1.toArray] (by simp [Act.eval])) ?_
      refine (HN1.out _ (hx.trans hI)).mono ?_
      rintro e w5 ⟨gc1, rfl, hc1, hx5⟩
      have hI5 := hI.trans hx5
      refine ⟨_, rfl, oi_end ⟨hI5, ?_⟩⟩
      simp only [Act.put, List.setIfInBounds_toArray, List.set_cons_succ, List.set_cons_zero]
      refine oi_loud (k := 5) (by kernel_rfl) rfl ?_
      refine wl_enter (by rfl) (run_callv _ _ _ rfl rfl goesNew #[.agg t2.toArray] (by simp [Act.eval])) ?_
      refine (HN2.out _ (hx.trans hI5)).mono ?_
      rintro e w6 ⟨gc2, rfl, hc2, hx6⟩
      have hI6 := hI5.trans hx6
      refine ⟨_, rfl, oi_end ⟨hI6, ?_⟩⟩
      simp only [Act.put, List.setIfInBounds_toArray, List.set_cons_succ, List.set_cons_zero]
      refine oi_run (k := 6) (by kernel_rfl) rfl (by rfl) (.agg #[.pointer (some ⟨gc1, 0, none⟩), .pointer (some ⟨gc2, 0, none⟩)]) (ex_build2 rfl rfl rfl (builtCoders _ _)) hI6 ?_
      simp only [Act.put, List.setIfInBounds_toArray, List.set_cons_succ, List.set_cons_zero]
      refine oi_loud (k := 7) (by kernel_rfl) rfl ?_
      refine wpList_box_abs rfl 115 (.tmp 29) rfl #[.pointer (some ⟨gc1, 0, none⟩), .pointer (some ⟨gc2, 0, none⟩)] rfl ?_
      intro w7 gk hb7 hx7 hg7
      have hI7 := hI6.trans hx7
      refine oi_end ⟨hI7, ?_⟩
      simp only [Act.put, List.setIfInBounds_toArray, List.set_cons_succ, List.set_cons_zero]
      refine oi_run (k := 8) (by kernel_rfl) rfl (by rfl) (.pointer (some ⟨gk, 0, none⟩)) (ex_assign rfl rfl) hI7 ?_
      simp only [Act.put, List.setIfInBounds_toArray, List.set_cons_succ, List.set_cons_zero]
      refine oi_run (k := 9) (by kernel_rfl) rfl (by rfl) (.int .i64 0) (ex_assign rfl rfl) hI7 ?_
      simp only [Act.put, List.setIfInBounds_toArray, List.set_cons_succ, List.set_cons_zero]
      refine oi_done (by kernel_rfl) ?_
      go_wp2_with fail
      refine bodyPost_ret (results_tmp2 rfl _ _ _) rfl ?_
      exact ⟨gk, gc1, gc2, rfl, hb7, (hc1.ext hx6).ext hx7, hc2.ext hx7, hx.trans hI7⟩
end Go.Proofs.YtgmddhljgfbibaaDoor
