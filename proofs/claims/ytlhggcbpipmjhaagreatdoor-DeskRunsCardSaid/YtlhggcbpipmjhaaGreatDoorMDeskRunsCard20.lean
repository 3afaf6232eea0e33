/- Contracts for the law DeskRunsCard, part 20: what the functions that it reaches answer, for all arguments that the theorems name. -/
import Derived.Lib.ConvBytes
import Derived.Test.YtlhggcbpipmjhaaGreatDoorMDeskRunsCard10
import Derived.Test.YtlhggcbpipmjhaaGreatDoorMDeskRunsCard1
import Derived.Deep.QuietTactic
import Derived.StillTail
import Derived.Test.YtlhggcbpipmjhaaGreatDoorMDeskRunsCard7
import Derived.Test.YtlhggcbpipmjhaaGreatDoorMDeskRunsCard8
import Derived.Test.YtlhggcbpipmjhaaGreatDoorMDeskRunsCard4
namespace Go.Proofs.YtlhggcbpipmjhaaGreatDoor
set_option linter.unusedVariables false
set_option linter.unusedSimpArgs false
open Go.RowKit
theorem ex_indexS {o : Oper} {a : Act} {x y : Operand} {t : TypeId} (ho : o.op = .index 9 x y) {c : UInt8} {r : List UInt8} (hx : a.eval x = .string ⟨(c :: r).toArray⟩) (hy : a.eval y = .int .i64 0) (w : World) : (execOp a.eval o).run Tryz.prog w = .ok (.value (.int .u8 (c.toNat : Int))) w := by
 simp [execOp, ho, hx, hy]
 go_simp
 rfl
theorem ex_neqS {o : Oper} {a : Act} {x y : Operand} {t2 : TypeId} (ho : o.op = .binOp .neq 9 x y t2) {s u : ByteArray} (hx : a.eval x = .string s) (hy : a.eval y = .string u) {b : Bool} (h : (s.toList == u.toList) = b) (w : World) : (execOp a.eval o).run Tryz.prog w = .ok (.value (.bool !b)) w := by
 subst h
 simp [execOp, ho, hx, hy]
 go_simp
theorem ex_eqU8 {o : Oper} {a : Act} {x y : Operand} {t2 : TypeId} (ho : o.op = .binOp .eql 5 x y t2) {m n : Int} (hx : a.eval x = .int .u8 m) (hy : a.eval y = .int .u8 n) {b : Bool} (h : decide (m = n) = b) (w : World) : (execOp a.eval o).run Tryz.prog w = .ok (.value (.bool b)) w := by
 subst h
 simp [execOp, ho, hx, hy]
 go_simp
 rfl
theorem ex_lssU8 {o : Oper} {a : Act} {x y : Operand} {t2 : TypeId} (ho : o.op = .binOp .lss 5 x y t2) {m n : Int} (hx : a.eval x = .int .u8 m) (hy : a.eval y = .int .u8 n) {b : Bool} (h : decide (m < n) = b) (w : World) : (execOp a.eval o).run Tryz.prog w = .ok (.value (.bool b)) w := by
 subst h
 simp [execOp, ho, hx, hy]
 go_simp
theorem ex_gtrU8 {o : Oper} {a : Act} {x y : Operand} {t2 : TypeId} (ho : o.op = .binOp .gtr 5 x y t2) {m n : Int} (hx : a.eval x = .int .u8 m) (hy : a.eval y = .int .u8 n) {b : Bool} (h : decide (n < m) = b) (w : World) : (execOp a.eval o).run Tryz.prog w = .ok (.value (.bool b)) w := by
 subst h
 simp [execOp, ho, hx, hy]
 go_simp
theorem ex_subU8 {o : Oper} {a : Act} {x y : Operand} {t2 : TypeId} (ho : o.op = .binOp .sub 5 x y t2) {d : Nat} (hd : d < 200) (hx : a.eval x = .int .u8 ((48 + d : Nat) : Int)) (hy : a.eval y = .int .u8 48) (w : World) : (execOp a.eval o).run Tryz.prog w = .ok (.value (.int .u8 (d : Int))) w := by
 have e : IntKind.u8.wrap (((48 + d : Nat) : Int) - 48) = d := by simp [IntKind.wrap, IntKind.signed, IntKind.bits]; omega
 simp [execOp, ho, hx, hy]
 go_simp
 push_cast at e
 exact e
theorem ex_convU8 {o : Oper} {a : Act} {x : Operand} (ho : o.op = .convert 5 3 x) {d : Nat} (hd : d < 200) (hx : a.eval x = .int .u8 (d : Int)) (w : World) : (execOp a.eval o).run Tryz.prog w = .ok (.value (.int .i64 (d : Int))) w := by
 have e : IntKind.i64.wrap (d : Int) = d := IntWalk.i64_in _ (by omega)
 simp [execOp, ho, hx]
 go_simp
theorem ex_loadU8 {o : Oper} {a : Act} {x : Operand} (ho : o.op = .load 5 x) {p : Addr} (hx : a.eval x = .pointer (some p)) {z : Int} {w : World} (h : w.cell? p = some (.int .u8 z)) : (execOp a.eval o).run Tryz.prog w = .ok (.value (.int .u8 z)) w := by
 have hr : (Instr.loadAt 5 (.pointer (some p))).run Tryz.prog w = .ok (.int .u8 z) w := by go_simp
 simp [execOp, ho, hx, hr]
theorem sizeB8 : (Tryz.prog.info? 5).map (·.size) = some 1 := by kernel_rfl
theorem ex_lenB {o : Oper} {a : Act} {x : Operand} (ho : o.op = .call { callee := .builtin .len, args := #[x], argTypes := #[86] }) {A : Option Addr} {n c : Nat} (hx : a.eval x = .slice A n c) (w : World) : (execOp a.eval o).run Tryz.prog w = .ok (.value (.int .i64 (n : Int))) w := by
 simp [execOp, ho, resolve, invoke, builtin, hx, Result.andThen, Builtin.len_, goInt]
theorem wl_convSB {ops : Array Oper} {Q : Exit → Act → World → Prop} {rest : List Oper} {o : Oper} {a : Act} {w : World} (hg : o.guard = none) (x : Operand) (ho : o.op = .convert 9 86 x) (dst : Option Tmp) (hdst : o.dst = dst) (s : ByteArray) (hx : a.eval x = .string s)
 (h : ∀ w1 g c, (∀ j, j < s.size → w1.cell? ⟨g, j, none⟩ = some (.int .u8 (s.data.toList.getD j 0).toNat)) → g < w1.heap.size → Ext w w1 → wpList Tryz.prog ops Q rest (a.put dst (.slice (some ⟨g, 0, none⟩) s.size c)) w1) : wpList Tryz.prog ops Q (o :: rest) a w :=
 wpList_plain hg fun _ hK => by
  have e := Lib.run_convert_string_bytes (P := Tryz.prog) w 9 86 5 s Tryz.underlying9 Tryz.underlying86 Tryz.underlying5
  have hh := h _ w.heap.size (grownCap w s.size 0 5) (fun j hj => Lib.bytesWorld_cell w 5 s j hj) (by rw [Lib.bytesWorld_size]; omega) (Lib.bytesWorld_below w 5 s)
  unfold Oper.wp execOp
  simp only [ho, hx, Sem.run_bind, e, Result.andThen_ok, Sem.run_pure]
  subst hdst
  exact hK _ _ hh
def NumIs (z : Option Int) (w : World) (e : Ending) (w' : World) : Prop := ∃ n is, e = .returned (.tuple #[.int .i64 n, .bool is]) ∧ (if is = true then some n else none) = z ∧ Ext w w'
theorem numeral_any (s : ByteArray) (hs : s.size ≤ 300) (w : World) :
 Calls Tryz.prog 19 #[.string s] w (NumIs (numR s.data.toList) w) := by
 have HT := hid_ (fun W => Tryz.strings_TrimPrefix s ⟨#[45]⟩ W)
 have e45 : (⟨#[45]⟩ : ByteArray).data.toList = [45] := rfl
 rw [e45, trim_is] at HT
 have hNR : numR s.data.toList = if (trimM s.data.toList).length < 1 ∨ 9 < (trimM s.data.toList).length ∨ ((trimM s.data.toList).head? = some 48 ∧ s.data.toList ≠ [48]) then none else (Lib.decFrom 0 (trimM s.data.toList)).map fun (m : Nat) => if trimM s.data.toList ≠ s.data.toList then -(m : Int) else (m : Int) := rfl
 have HS48 := hid_ (show (s.toList == (⟨#[48]⟩ : ByteArray).toList) = decide (s.data.toList = [48]) by
  rw [Lib.toList_data, Lib.toList_data, Bool.eq_iff_iff]; simp)
 have HSQ := hid_ (str_eq s (trimM s.data.toList))
 generalize numR s.data.toList = z at *
 generalize trimM s.data.toList = T at *
 have HO := hid_ (fun W => outside_any (T.length : Int) 1 9 W)
 by_cases hA : T.length < 1 ∨ 9 < T.length
 ·rw [if_pos (hA.elim .inl (fun h => .inr (.inl h)))] at hNR
  subst hNR
  have hin : ¬ inB (T.length : Int) 1 9 = true := fun h => by rw [inB_iff] at h; omega
  have HB : Hid ((!inB (T.length : Int) 1 9) = true) := hid_ (by simpa using hin)
  clear hA hin
  go_enter Tryz.func19, Tryz.ntmps19
  go_wp2_with (first
   | (go_at_call 51; (with_reducible refine (HT.out _).mono ?_); rintro e w1 ⟨rfl, rfl⟩)
   | ((with_reducible apply gS 11); refine wl_run rfl (.int .i64 (T.length : Int)) (ex_lenS rfl rfl) ?_)
   | (go_at_call 20; (with_reducible refine (HO.out _).mono ?_); rintro e w1 ⟨rfl, rfl⟩; rw [HB.out]))
  go_ret2
  exact ⟨_, _, rfl, rfl, Ext.refl _⟩
 ·have hin : inB (T.length : Int) 1 9 = true := inB_iff.2 (by omega)
  have HB : Hid ((!inB (T.length : Int) 1 9) = false) := hid_ (by simpa using hin)
  obtain ⟨c, r, rfl⟩ : ∃ c r, T = c :: r := by
   cases T with
   | nil => simp at hA
   | cons c r => exact ⟨c, r, rfl⟩
  obtain ⟨N, hN⟩ : ∃ N, (c :: r).length = N := ⟨_, rfl⟩
  have HLN := hid_ hN
  rw [hN] at HO HB
  by_cases h48 : (c :: r).head? = some 48 ∧ s.data.toList ≠ [48]
  ·rw [if_pos (.inr (.inr h48))] at hNR
   subst hNR
   have hc : c = 48 := by simpa using h48.1
   subst hc
   have HN : Hid ((s.toList == (⟨#[48]⟩ : ByteArray).toList) = false) := hid_ (by rw [HS48.out]; simpa using h48.2)
   clear hA h48 hin hN
   go_enter Tryz.func19, Tryz.ntmps19
   go_wp2_with (first
    | (go_at_call 51; (with_reducible refine (HT.out _).mono ?_); rintro e w1 ⟨rfl, rfl⟩)
    | ((with_reducible apply gS 11); refine wl_run rfl (.int .i64 (N : Int)) (by rw [← HLN.out]; exact ex_lenS rfl rfl) ?_)
    | (go_at_call 20; (with_reducible refine (HO.out _).mono ?_); rintro e w1 ⟨rfl, rfl⟩; rw [HB.out])
    | ((with_reducible apply gS 15); refine wl_run_g (by rfl) (.int .u8 48) (ex_indexS (c := 48) rfl rfl rfl) ?_)
    | ((with_reducible apply gS 16); refine wl_run_g (by rfl) (.bool true) (ex_eqU8 rfl rfl rfl (by decide)) ?_)
    | ((with_reducible apply gS 19); refine wl_run_g (by rfl) (.bool true) (ex_neqS rfl rfl rfl HN.out) ?_))
   go_ret2
   exact ⟨_, _, rfl, rfl, Ext.refl _⟩
  ·have hnr : ¬ ((c :: r).length < 1 ∨ 9 < (c :: r).length ∨ ((c :: r).head? = some 48 ∧ s.data.toList ≠ [48])) := fun h => h.elim (fun h => hA (.inl h)) (fun h => h.elim (fun h => hA (.inr h)) h48)
   rw [if_neg hnr] at hNR
   have hN9 : 1 ≤ N ∧ N ≤ 9 := by rw [hN] at hA; omega
   have hc48 : c ≠ 48 ∨ s.data.toList = [48] := by
    by_cases h : c = 48
    ·exact .inr (Decidable.byContradiction fun h2 => h48 ⟨by rw [h]; rfl, h2⟩)
    ·exact .inl h
   clear hnr h48 hin hA hN
   have HNRX := hid_ hNR
   clear hNR
   go_enter Tryz.func19, Tryz.ntmps19
   go_upto_region 2 with (first
    | (go_at_call 51; (with_reducible refine (HT.out _).mono ?_); rintro e w1 ⟨rfl, rfl⟩))
   go_cut [21] from 10 to 21 (fun v wx => v = .bool false ∧ wx = w1)
   case first =>
    by_cases h : c = 48
    ·subst h
     have hl := hc48.resolve_left (fun h => h rfl)
     have HNE : Hid ((s.toList == (⟨#[48]⟩ : ByteArray).toList) = true) := hid_ (by rw [HS48.out]; simpa using hl)
     clear hc48 hl
     go_wp2_with (first
      | ((with_reducible apply gS 11); refine wl_run rfl (.int .i64 (N : Int)) (by rw [← HLN.out]; exact ex_lenS rfl rfl) ?_)
      | (go_at_call 20; (with_reducible refine (HO.out _).mono ?_); rintro e w2 ⟨rfl, rfl⟩; rw [HB.out])
      | ((with_reducible apply gS 15); refine wl_run_g (by rfl) (.int .u8 48) (ex_indexS (c := 48) rfl rfl rfl) ?_)
      | ((with_reducible apply gS 16); refine wl_run_g (by rfl) (.bool true) (ex_eqU8 rfl rfl rfl (by decide)) ?_)
      | ((with_reducible apply gS 19); refine wl_run_g (by rfl) (.bool false) (ex_neqS rfl rfl rfl HNE.out) ?_))
     go_meet
     exact ⟨rfl, rfl⟩
    ·have HC : Hid (decide (((c.toNat : Nat) : Int) = 48) = false) := hid_ (by
      simp only [decide_eq_false_iff_not]
      intro e
      exact h (UInt8.toNat_inj.1 (by show c.toNat = 48; omega)))
     clear hc48 h
     go_wp2_with (first
      | ((with_reducible apply gS 11); refine wl_run rfl (.int .i64 (N : Int)) (by rw [← HLN.out]; exact ex_lenS rfl rfl) ?_)
      | (go_at_call 20; (with_reducible refine (HO.out _).mono ?_); rintro e w2 ⟨rfl, rfl⟩; rw [HB.out])
      | ((with_reducible apply gS 15); refine wl_run_g (by rfl) (.int .u8 (c.toNat : Int)) (ex_indexS rfl rfl rfl) ?_)
      | ((with_reducible apply gS 16); refine wl_run_g (by rfl) (.bool false) (ex_eqU8 rfl rfl rfl HC.out) ?_))
     go_meet
     exact ⟨rfl, rfl⟩
   case rest =>
   obtain ⟨hcv, hwx⟩ := hcut
   subst hcv hwx
   generalize c :: r = T at *
   have hTS : Hid ((⟨T.toArray⟩ : ByteArray).size = N) := hid_ (by have := HLN.out; simpa [ByteArray.size] using this)
   go_wp2_with (first
    | ((with_reducible apply gS 23); refine wl_convSB rfl _ rfl (some 23) rfl ⟨T.toArray⟩ rfl ?_; intro w2 g cp hcell hgl hx2; rw [hTS.out])
    | ((with_reducible apply gS 24); refine wl_run rfl (.int .i64 (N : Int)) (ex_lenB rfl rfl) ?_))
   have HCL := hid_ (fun k (hk : k < N) => by have h9 := hcell k (by rw [hTS.out]; exact hk); exact h9)
   have HTN : Hid (T.length = N) := HLN
   clear hcell
   go_loopw [5, 25] (fun nv iv wr => ∃ (k acc : Nat), k ≤ N ∧ iv = .int .i64 (k : Int) ∧ nv = .int .i64 (acc : Int) ∧ Hid (Lib.decFrom 0 (T.take k) = some acc) ∧ acc < 10 ^ k ∧ Ext w2 wr) (fun _ iv _ => N - (intOf iv).toNat)
   case atStart => exact ⟨0, 0, by omega, rfl, rfl, hid_ rfl, by decide, Ext.refl w2⟩
   case round =>
    obtain ⟨k, acc, hk, rfl, rfl, HD, hacc, hx⟩ := hrel
    by_cases hlt : k < N
    ·have hkl : k < T.length := by rw [HTN.out]; exact hlt
     have hcb : wr.cell? ⟨g, k, none⟩ = some (.int .u8 (T[k].toNat : Int)) := by
      rw [hx.cell (p := ⟨g, k, none⟩) hgl, HCL.out k hlt]
      show some (Value.int .u8 ((T.getD k 0).toNat : Int)) = _
      rw [List.getD_eq_getElem?_getD, List.getElem?_eq_getElem hkl]
      rfl
     have hts : T.take (k + 1) = T.take k ++ [T[k]] := by rw [List.take_succ_eq_append_getElem hkl]
     have hsn := decFrom_snoc (T.take k) 0 T[k]
     rw [← hts, HD.out] at hsn
     have ha9 : acc < 1000000000 := Nat.lt_of_lt_of_le hacc (Nat.le_trans (Nat.pow_le_pow_right (by omega) (show k ≤ 9 by omega)) (by decide))
     have hall := Lib.digit_of_decFrom T 0
     have hTk : T[k]? = some T[k] := List.getElem?_eq_getElem hkl
     generalize T[k] = bb at *
     cases hdv : Lib.digitVal bb with
     | none =>
       have hnone : Lib.decFrom 0 T = none := by
        cases h9 : Lib.decFrom 0 T with
        | none => rfl
        | some n =>
          obtain ⟨d, hd⟩ := hall n h9 k bb hTk
          rw [hdv] at hd
          cases hd
       have HNONE := hid_ hnone
       have hnd : bb.toNat < 48 ∨ 57 < bb.toNat := by
        unfold Lib.digitVal at hdv
        split at hdv
        ·cases hdv
        ·omega
       obtain ⟨bn, hbn⟩ : ∃ bn, bb.toNat = bn := ⟨_, rfl⟩
       rw [hbn] at hcb hnd
       clear hall hTk hsn hts hkl hdv hbn hnone
       by_cases h1 : bn < 48
       ·have H1 : Hid (decide ((bn : Int) < 48) = true) := hid_ (by simp; omega)
        clear hnd h1
        go_wp2_with (first
         | ((with_reducible apply gS 27); refine wl_run rfl (.pointer (some ⟨g, k, none⟩)) (ex_ixSl0 Tryz.underlying86 sizeB8 rfl rfl rfl hlt) ?_)
         | ((with_reducible apply gS 28); refine wl_read rfl (.int .u8 (bn : Int)) (ex_loadU8 rfl rfl hcb) ?_)
         | ((with_reducible apply gS 30); refine wl_run rfl (.bool true) (ex_lssU8 rfl rfl rfl H1.out) ?_))
        go_ret2
        exact ⟨_, _, rfl, by rw [HNRX.out, HNONE.out]; rfl, hx2.trans hx⟩
       ·have H1 : Hid (decide ((bn : Int) < 48) = false) := hid_ (by simp; omega)
        have H2 : Hid (decide ((57 : Int) < (bn : Int)) = true) := hid_ (by simp; omega)
        clear hnd h1
        go_wp2_with (first
         | ((with_reducible apply gS 27); refine wl_run rfl (.pointer (some ⟨g, k, none⟩)) (ex_ixSl0 Tryz.underlying86 sizeB8 rfl rfl rfl hlt) ?_)
         | ((with_reducible apply gS 28); refine wl_read rfl (.int .u8 (bn : Int)) (ex_loadU8 rfl rfl hcb) ?_)
         | ((with_reducible apply gS 30); refine wl_run rfl (.bool false) (ex_lssU8 rfl rfl rfl H1.out) ?_)
         | ((with_reducible apply gS 33); refine wl_run_g (by rfl) (.bool true) (ex_gtrU8 rfl rfl rfl H2.out) ?_))
        go_ret2
        exact ⟨_, _, rfl, by rw [HNRX.out, HNONE.out]; rfl, hx2.trans hx⟩
     | some d =>
       obtain ⟨d1, d2⟩ := digitVal_some hdv
       have hbn : bb.toNat = 48 + d := by
        rw [← d2, UInt8.toNat_ofNat']
        omega
       rw [hdv] at hsn
       have hsn' : Lib.decFrom 0 (T.take (k + 1)) = some (acc * 10 + d) := hsn
       have hp : acc * 10 + d < 10 ^ (k + 1) := by rw [Nat.pow_succ]; omega
       obtain ⟨bn, hb2⟩ : ∃ bn, 48 + d = bn := ⟨_, rfl⟩
       have HBN := hid_ hb2
       rw [hbn, hb2] at hcb
       have H1 : Hid (decide ((bn : Int) < 48) = false) := hid_ (by simp; omega)
       have H2 : Hid (decide ((57 : Int) < (bn : Int)) = false) := hid_ (by simp; omega)
       obtain ⟨ac2, hac2⟩ : ∃ z, acc * 10 + d = z := ⟨_, rfl⟩
       have HAC := hid_ hac2
       rw [hac2] at hsn' hp
       have HSN := hid_ hsn'
       have HPW := hid_ hp
       obtain ⟨am, ham⟩ : ∃ z, 10 * acc = z := ⟨_, rfl⟩
       have HAM := hid_ ham
       have ham9 : am + d = ac2 := by omega
       have ham10 : am < 10000000000 := by omega
       clear hall hTk hsn hts hkl hdv hbn d2 hsn' hp hac2 ham hb2
       go_wp2_with (first
        | ((with_reducible apply gS 27); refine wl_run rfl (.pointer (some ⟨g, k, none⟩)) (ex_ixSl0 Tryz.underlying86 sizeB8 rfl rfl rfl hlt) ?_)
        | ((with_reducible apply gS 28); refine wl_read rfl (.int .u8 (bn : Int)) (ex_loadU8 rfl rfl hcb) ?_)
        | ((with_reducible apply gS 30); refine wl_run rfl (.bool false) (ex_lssU8 rfl rfl rfl H1.out) ?_)
        | ((with_reducible apply gS 33); refine wl_run_g (by rfl) (.bool false) (ex_gtrU8 rfl rfl rfl H2.out) ?_)
        | ((with_reducible apply gS 36); refine wl_run rfl (.int .i64 (am : Int)) (by rw [← HAM.out]; exact ex_mulN (i := 10) (d := acc) rfl rfl rfl (by omega)) ?_)
        | ((with_reducible apply gS 38); refine wl_run rfl (.int .u8 (d : Int)) (ex_subU8 rfl (by omega) (by rw [HBN.out]; rfl) rfl) ?_)
        | ((with_reducible apply gS 39); refine wl_run rfl (.int .i64 (d : Int)) (ex_convU8 rfl (by omega) rfl) ?_)
        | ((with_reducible apply gS 40); refine wl_run rfl (.int .i64 (ac2 : Int)) (by rw [← ham9]; exact ex_addN (i := am) (d := d) rfl rfl rfl (by omega)) ?_))
       go_roundw
       case rel => exact ⟨k + 1, ac2, by omega, by go_num, rfl, HSN, HPW.out, hx⟩
       case measure => simp [intOf]; omega
    ·have ek : k = N := by omega
     subst ek
     have hfull : T.take k = T := by rw [← HTN.out, List.take_length]
     rw [hfull] at HD
     have ha9 : acc < 1000000000 := Nat.lt_of_lt_of_le hacc (Nat.le_trans (Nat.pow_le_pow_right (by omega) (show k ≤ 9 by omega)) (by decide))
     clear hfull
     by_cases hTl : T = s.data.toList
     ·have HE : Hid (((⟨T.toArray⟩ : ByteArray).toList == s.toList) = true) := hid_ (by rw [HSQ.out]; simpa using hTl)
      have hfin : (if true = true then some (acc : Int) else none) = Option.map (fun (m : Nat) => if T ≠ s.data.toList then -(m : Int) else (m : Int)) (some acc) := by
       rw [if_pos rfl, Option.map_some, if_neg (fun h => h hTl)]
      have HFIN := hid_ hfin
      clear hTl hfin
      go_wp2_with ((with_reducible apply gS 44); refine wl_run rfl (.bool false) (ex_neqS rfl rfl rfl HE.out) ?_)
      go_ret2
      exact ⟨_, _, rfl, by rw [HNRX.out, HD.out]; exact HFIN.out, hx2.trans hx⟩
     ·have HE : Hid (((⟨T.toArray⟩ : ByteArray).toList == s.toList) = false) := hid_ (by rw [HSQ.out]; simpa using hTl)
      have hfin : (if true = true then some (-(acc : Int)) else none) = Option.map (fun (m : Nat) => if T ≠ s.data.toList then -(m : Int) else (m : Int)) (some acc) := by
       rw [if_pos rfl, Option.map_some, if_pos hTl]
      have HFIN := hid_ hfin
      have hng : IntKind.i64.wrap (-(acc : Int)) = -(acc : Int) := IntWalk.i64_in _ (by omega)
      clear hTl hfin
      go_wp2_with ((with_reducible apply gS 44); refine wl_run rfl (.bool true) (ex_neqS rfl rfl rfl HE.out) ?_)
      go_ret2
      exact ⟨_, _, rfl, by rw [HNRX.out, HD.out]; exact HFIN.out, hx2.trans hx⟩
section
variable {P : Program} {ops : Array Oper} {C : World → Prop} {Q : Act → Prop} {a : Act} {o : Oper} {rest : List Oper}
theorem q_at (hw : Region.wanted o (yielded ops a.tmps) = true) (v : Value) (hq : ∀ w, C w → o.quietAt P a C w v) (h : wpQuiet P ops C Q rest (a.put o.dst v)) : wpQuiet P ops C Q (o :: rest) a := by
 refine wpQuiet_step fun K hK => ?_
 rw [if_pos hw]
 exact ⟨v, hq, hK _ h⟩
theorem q_run (hw : Region.wanted o (yielded ops a.tmps) = true) (v : Value) (hq : ∀ w, (execOp a.eval o).run P w = .ok (.value v) w) (h : wpQuiet P ops C Q rest (a.put o.dst v)) : wpQuiet P ops C Q (o :: rest) a :=
 q_at hw v (fun w _ => by unfold Oper.quietAt; rw [hq]; exact ⟨rfl, rfl⟩) h
theorem q_move (hw : Region.wanted o (yielded ops a.tmps) = true) (x : Operand) (ho : o.op = .move x) (v : Value) (hx : a.eval x = v) (h : wpQuiet P ops C Q rest (a.put o.dst v)) : wpQuiet P ops C Q (o :: rest) a :=
 q_run hw _ (fun w => by simp [execOp, ho, hx]) h
theorem q_assign (hw : Region.wanted o (yielded ops a.tmps) = true) (x : Operand) (ho : o.op = .assign x) (v : Value) (hx : a.eval x = v) (h : wpQuiet P ops C Q rest (a.put o.dst v)) : wpQuiet P ops C Q (o :: rest) a :=
 q_run hw _ (fun w => by simp [execOp, ho, hx]) h
theorem q_call (hw : Region.wanted o (yielded ops a.tmps) = true) (f : FuncId) (args : Array Value) (he : ∀ w, (execOp a.eval o).run P w = .ok (.enter f args) w) (v : Value)
 (hc : ∀ w, C w → Calls P f args w fun e w' => e = .returned v ∧ C w') (h : wpQuiet P ops C Q rest (a.put o.dst v)) : wpQuiet P ops C Q (o :: rest) a := by
 refine q_at hw v (fun w hC => ?_) h
 unfold Oper.quietAt
 rw [he]
 exact ⟨rfl, hc w hC⟩
theorem q_callF (hw : Region.wanted o (yielded ops a.tmps) = true) (f : FuncId) {fn : Func} (hf : P.funcs[f]? = some fn) (hname : (fn.name == "runtime.NumGoroutine") = false) (hb : fn.body.isSome = true) (xs : Array Operand) (ts : Array TypeId)
 (ho : o.op = .call { callee := .value (.func f), args := xs, argTypes := ts }) (args : Array Value) (hx : xs.map a.eval = args) (v : Value)
 (hc : ∀ w, C w → Calls P f args w fun e w' => e = .returned v ∧ C w') (h : wpQuiet P ops C Q rest (a.put o.dst v)) : wpQuiet P ops C Q (o :: rest) a := by
 obtain ⟨c, hb⟩ := Option.isSome_iff_exists.1 hb
 have hn : ¬ fn.name = "runtime.NumGoroutine" := by simpa using hname
 refine q_call hw f args (fun w => ?_) v hc h
 have he : a.eval (.func f) = .func (.func f) #[] #[] := rfl
 simp [execOp, ho, resolve, hx, he, Deferred.ofValue, invoke, callFunc, hf, hb, hn]
theorem q_binOp (hw : Region.wanted o (yielded ops a.tmps) = true) (op : BinOp) (t : TypeId) (x y : Operand) (t2 : TypeId) (ho : o.op = .binOp op t x y t2) (vx vy : Value) (hx : a.eval x = vx) (hy : a.eval y = vy) (v : Value)
 (hg : ∀ w, (eqGuard op t x y vx vy).run P w = .ok () w) (hr : ∀ w, (binOp op t vx vy).run P w = .ok v w) (h : wpQuiet P ops C Q rest (a.put o.dst v)) : wpQuiet P ops C Q (o :: rest) a :=
 q_run hw v (fun w => by simp [execOp, ho, hx, hy, hg, hr]) h
end
def hush (s : Oper) : Oper := { s with op := .move (.const undef) }
def fwdB (md : Region.Mode) (ops : Array Oper) : Bool :=
 (List.range ops.size).all fun j => match ops[j]? with | some o => o.after.all fun e => !Region.binds md e || decide (e.on < j) | none => true
section
variable {P : Program} {C : World → Prop} {head : List Oper} {s : Oper}
theorem at_last (x : Oper) : ((head ++ [x]).toArray)[head.length]? = some x := by simp
theorem at_head (x y : Oper) (j : Nat) (h : j ≠ head.length) : ((head ++ [x]).toArray)[j]? = ((head ++ [y]).toArray)[j]? := by
 simp only [List.getElem?_toArray]
 rcases Nat.lt_or_ge j head.length with h1 | h1
 ·rw [List.getElem?_append_left h1, List.getElem?_append_left h1]
 ·rw [List.getElem?_append_right h1, List.getElem?_append_right h1, List.getElem?_eq_none (by simp; omega), List.getElem?_eq_none (by simp; omega)]
theorem ready_hush (md : Region.Mode) (listed : Array Bool) (j : Nat) : j ∈ Region.ready md (head ++ [hush s]).toArray listed ↔ j ∈ Region.ready md (head ++ [s]).toArray listed := by
 rw [mem_ready, mem_ready]
 by_cases hj : j = head.length
 ·subst hj
  rw [at_last, at_last]
  constructor
  ·rintro ⟨h1, o, ho, h2⟩
   injection ho with ho
   subst ho
   exact ⟨h1, s, rfl, h2⟩
  ·rintro ⟨h1, o, ho, h2⟩
   injection ho with ho
   subst ho
   exact ⟨h1, hush s, rfl, h2⟩
 ·rw [at_head (hush s) s j hj]
theorem yielded_hush (hs : s.dst = none) (tmps : Array Value) : yielded (head ++ [hush s]).toArray tmps = yielded (head ++ [s]).toArray tmps := by
 funext j
 unfold yielded
 by_cases hj : j = head.length
 ·subst hj
  rw [at_last, at_last]
  simp [hush, hs]
 ·rw [at_head (hush s) s j hj]
theorem none_ready {md : Region.Mode} {ops : Array Oper} {listed : Array Bool} (hf : fwdB md ops = true) (hr : ∀ j, j ∉ Region.ready md ops listed) (hsz : listed.size = ops.size) : ∀ j, j < ops.size → listed.getD j true = true := by
 intro j
 induction j using Nat.strongRecOn with
 | _ j ih =>
   intro hj
   cases hl : listed.getD j true with
   | true => rfl
   | false =>
     refine absurd (mem_ready.2 ⟨hl, ops[j], by simp [hj], fun e he hb => ?_⟩) (hr j)
     have h1 := List.all_eq_true.1 hf j (List.mem_range.2 hj)
     simp only [hj, Array.getElem?_eq_getElem] at h1
     have h2 := Array.all_eq_true'.1 h1 e he
     simp only [hb, Bool.not_true, Bool.false_or, decide_eq_true_eq] at h2
     have h3 := ih e.on h2 (by omega)
     have h4 : e.on < listed.size := by omega
     simpa [h4] using h3
theorem bridge {Q : Exit → Act → World → Prop} (hs : s.dst = none) (hgd : s.guard = none) (hS : Region.sinkB .any (head ++ [s]).toArray head.length = true) (hF : fwdB .any (head ++ [s]).toArray = true) :
 ∀ (f : Nat) (listed : Array Bool) (a : Act) (w : World), HeadInv .any (head ++ [s]).toArray head.length listed → C w →
  wpAnyQ P .any (head ++ [hush s]).toArray C (fun a' => ∀ w', C w' → s.wp P a' w' (fun a'' w'' => Q .normal a'' w'') Q) f listed a → wpAny P .any (head ++ [s]).toArray Q f listed a w := by
 have hsz : (head ++ [s]).toArray.size = head.length + 1 := by simp
 have hC : Region.chainB .any (head ++ [s]).toArray head.length = true := by
  unfold Region.chainB
  rw [List.all_eq_true]
  intro t ht
  have := List.mem_range.1 ht
  simp only [Bool.or_eq_true, decide_eq_true_eq]
  left; omega
 have hno : ∀ listed : Array Bool, HeadInv .any (head ++ [s]).toArray head.length listed → Region.ready .any (head ++ [s]).toArray listed = [] → False := by
  intro listed inv h0
  have := none_ready hF (fun j => by rw [h0]; simp) inv.size head.length (by omega)
  rw [inv.tail head.length (Nat.le_refl _) (by omega)] at this
  cases this
 intro f
 induction f with
 | zero =>
   intro listed a w inv _ h
   refine (hno listed inv ?_).elim
   refine List.eq_nil_iff_forall_not_mem.2 fun j hj => ?_
   have := (ready_hush (s := s) .any listed j).2 hj
   rw [h.1] at this
   cases this
 | succ f ih =>
   intro listed a w inv hw h
   refine ⟨fun h0 => (hno listed inv h0).elim, fun i hi => ?_⟩
   have hq := h.2 i ((ready_hush (s := s) .any listed i).2 hi)
   have hlt : i < head.length + 1 := by
    obtain ⟨-, o, ho, -⟩ := mem_ready.1 hi
    have := (Array.getElem?_eq_some_iff.1 ho).1
    omega
   by_cases hin : i < head.length
   ·have hq' : qOp P (head ++ [s]).toArray C i (wpAnyQ P .any (head ++ [hush s]).toArray C (fun a' => ∀ w', C w' → s.wp P a' w' (fun a'' w'' => Q .normal a'' w'') Q) f (listed.setIfInBounds i true)) a := by
     unfold qOp at hq ⊢
     rw [at_head (hush s) s i (by omega), yielded_hush hs] at hq
     exact hq
    exact wpOp_of_qOp hw (fun a' w' hw' hk => ih _ a' w' (inv.set hi hin) hw' hk) hq'
   ·obtain rfl : i = head.length := by omega
    -- all others are listed
    have hall : ∀ j, j < head.length → listed.getD j true = true := by
     intro j hj
     cases hl : listed.getD j true with
     | true => rfl
     | false => exact absurd hi (tail_waits hS hC (by omega) inv _ j rfl hj hl head.length (Nat.le_refl _))
    have hdone : ∀ md ops, ops.size = head.length + 1 → Region.ready md ops (listed.setIfInBounds head.length true) = [] := by
     intro md ops ho
     refine List.eq_nil_iff_forall_not_mem.2 fun j hj => ?_
     obtain ⟨h1, o, h2, -⟩ := mem_ready.1 hj
     have h3 : j < ops.size := (Array.getElem?_eq_some_iff.1 h2).1
     by_cases hjn : j = head.length
     ·rw [hjn] at h1
      have h4 : head.length < listed.size := by rw [inv.size]; omega
      simp [h4] at h1
     ·rw [getD_set_ne true (by omega), hall j (by omega)] at h1
      cases h1
    have hQ : ∀ w', C w' → s.wp P a w' (fun a'' w'' => Q .normal a'' w'') Q := by
     unfold qOp at hq
     rw [at_last] at hq
     have hwn : Region.wanted (hush s) (yielded (head ++ [hush s]).toArray a.tmps) = true := by simp [Region.wanted, hush, hgd]
     simp only [hwn, if_true] at hq
     obtain ⟨v, -, hk⟩ := hq
     have hput : a.put (hush s).dst v = a := by simp [hush, hs, Act.put]
     rw [hput] at hk
     cases f with
     | zero => exact hk.2
     | succ f => exact hk.1 (hdone _ _ (by simp))
    have hwp := Oper.wp_mono (K' := wpAny P .any (head ++ [s]).toArray Q f (listed.setIfInBounds head.length true)) (fun a' w' hk => by
     cases f with
     | zero => exact ⟨hdone _ _ hsz, hk⟩
     | succ f => exact ⟨fun _ => hk, fun i hi => by rw [hdone _ _ hsz] at hi; cases hi⟩) (hQ w hw)
    unfold wpOp
    rw [at_last]
    have hwn : Region.wanted s (yielded (head ++ [s]).toArray a.tmps) = true := by simp [Region.wanted, hgd]
    simp only [hwn, if_true]
    exact .inl hwp
theorem wpQuiet_append {ops : Array Oper} {Q : Act → Prop} (m : List Oper) : ∀ (l : List Oper) (a : Act), wpQuiet P ops C (fun a' => wpQuiet P ops C Q m a') l a → wpQuiet P ops C Q (l ++ m) a := by
 intro l
 induction l with
 | nil => intro a h; exact h
 | cons o l ih =>
   intro a h
   show wpQuiet P ops C Q (o :: (l ++ m)) a
   unfold wpQuiet at h ⊢
   split
   ·next hw => rw [if_pos hw] at h; exact Oper.quiet_mono (fun a' h' => ih a' h') h
   ·next hw => rw [if_neg hw] at h; exact ih _ h
theorem wpQuiet_mono_ {ops : Array Oper} {Q Q' : Act → Prop} (hQ : ∀ a, Q a → Q' a) : ∀ (l : List Oper) (a : Act), wpQuiet P ops C Q l a → wpQuiet P ops C Q' l a := by
 intro l
 induction l with
 | nil => intro a h; exact hQ a h
 | cons o l ih =>
   intro a h
   unfold wpQuiet at h ⊢
   split
   ·next hw => rw [if_pos hw] at h; exact Oper.quiet_mono (fun a' h' => ih a' h') h
   ·next hw => rw [if_neg hw] at h; exact ih _ h
theorem wp_region_quiet_store {id : Nat} {Q : Exit → Act → World → Prop} {a : Act} {w : World} (hm : P.follows .mixedOrders = true) (hs : s.dst = none) (hgd : s.guard = none)
 (hB : Region.lexB .any (head ++ [hush s]).toArray = true) (hS : Region.sinkB .any (head ++ [s]).toArray head.length = true) (hF : fwdB .any (head ++ [s]).toArray = true) (hC : C { w with drawn := w.drawn + 1 })
 (h : wpQuiet P (head ++ [hush s]).toArray C (fun a' => ∀ w', C w' → s.wp P a' w' (fun a'' w'' => Q .normal a'' w'') Q) head a) : (Code.region id (head ++ [s]).toArray true).wp P Q a w := by
 simp only [Region.lexB, Bool.and_eq_true] at hB
 refine wp_region_any hm ?_
 have hq : wpQuiet P (head ++ [hush s]).toArray C (fun a' => ∀ w', C w' → s.wp P a' w' (fun a'' w'' => Q .normal a'' w'') Q) (head ++ [hush s]) a := by
  refine wpQuiet_append [hush s] head a ?_
  refine wpQuiet_mono_ ?_ head a h
  intro a' ha'
  refine q_move (by simp [Region.wanted, hush, hgd]) (.const undef) rfl undef rfl ?_
  have hput : a'.put (hush s).dst undef = a' := by simp [hush, hs, Act.put]
  rw [hput]
  exact ha'
 have H := wpAnyQ_lex (C := C) (md := .any) hB.1 (head ++ [hush s]) 0 (Array.replicate (head ++ [hush s]).toArray.size false) a (by simp) (by simpa using hB.2) hq
 have e : (head ++ [hush s]).length = (head ++ [s]).toArray.size := by simp
 have e2 : (head ++ [hush s]).toArray.size = (head ++ [s]).toArray.size := by simp
 rw [e, e2] at H
 exact bridge hs hgd hS hF _ _ a _ ⟨by simp, fun j oj _ hl => (by rw [getD_replicate_false] at hl; cases hl), fun t _ ht => getD_in (by simpa using ht) (getD_replicate_false _ _)⟩ hC H
theorem wp_region_quiet_last {l : List Oper} {id : Nat} {Q : Exit → Act → World → Prop} {a : Act} {w : World} (hl : l.dropLast ++ [s] = l) (hm : P.follows .mixedOrders = true) (hs : s.dst = none) (hgd : s.guard = none)
 (hB : Region.lexB .any (l.dropLast ++ [hush s]).toArray = true) (hS : Region.sinkB .any l.toArray l.dropLast.length = true) (hF : fwdB .any l.toArray = true) (hC : C { w with drawn := w.drawn + 1 })
 (h : ∀ ops : Array Oper, wpQuiet P ops C (fun a' => ∀ w', C w' → s.wp P a' w' (fun a'' w'' => Q .normal a'' w'') Q) l.dropLast a) : (Code.region id l.toArray true).wp P Q a w := by
 have := wp_region_quiet_store (head := l.dropLast) (s := s) (id := id) (Q := Q) (a := a) (w := w) (C := C) hm hs hgd hB (by rw [hl]; exact hS) (by rw [hl]; exact hF) hC (h _)
 rwa [hl] at this
end
section
variable {P : Program} {ops : Array Oper} {C : World → Prop} {Q : Act → Prop} {a : Act} {o : Oper} {rest : List Oper}
theorem q_addr (hw : Region.wanted o (yielded ops a.tmps) = true) (t : TypeId) (x ix : Operand) (ho : o.op = .indexAddr t x ix) (vx vi : Value) (hx : a.eval x = vx) (hi : a.eval ix = vi) (v : Value) (hr : ∀ w, (Instr.indexAt t vx vi).run P w = .ok v w) (h : wpQuiet P ops C Q rest (a.put o.dst v)) : wpQuiet P ops C Q (o :: rest) a :=
 q_run hw v (fun w => by simp [execOp, ho, hx, hi, hr]) h
theorem q_load (hw : Region.wanted o (yielded ops a.tmps) = true) (t : TypeId) (x : Operand) (ho : o.op = .load t x) (vx : Value) (hx : a.eval x = vx) (v : Value) (hr : ∀ w, C w → (Instr.loadAt t vx).run P w = .ok v w) (h : wpQuiet P ops C Q rest (a.put o.dst v)) : wpQuiet P ops C Q (o :: rest) a :=
 q_at hw v (fun w hC => by unfold Oper.quietAt; simp [execOp, ho, hx, hr w hC, Oper.quietUpon]) h
end
theorem run_remI (i : Nat) (h : i < 1000) (W : World) : (binOp .rem 3 (.int .i64 (i : Int)) (.int .i64 8)).run Tryz.prog W = .ok (.int .i64 ((i % 8 : Nat) : Int)) W := by
 have h0 : (0 : Int) ≤ (i : Int) := by omega
 have h1 : (i : Int) < 1000 := by omega
 go_simp
 exact Int.tmod_eq_emod_of_nonneg h0
theorem run_quoI (i : Nat) (h : i < 1000) (W : World) : (binOp .quo 3 (.int .i64 (i : Int)) (.int .i64 8)).run Tryz.prog W = .ok (.int .i64 ((i / 8 : Nat) : Int)) W := by
 have h0 : (0 : Int) ≤ (i : Int) := by omega
 have h1 : (i : Int) < 1000 := by omega
 go_simp
 exact IntWalk.i64_in _ (by omega)
theorem run_index88 (g n : Nat) (h : n < 8) (W : World) : (Instr.indexAt 94 (.pointer (some ⟨g, 0, none⟩)) (.int .i64 (n : Int))).run Tryz.prog W = .ok (.pointer (some ⟨g, 8 * n, none⟩)) W := by
 have h0 : (0 : Int) ≤ (n : Int) := by omega
 have h1 : (n : Int) < 8 := by omega
 go_simp
theorem run_index8 (g m n : Nat) (h : n < 8) (W : World) : (Instr.indexAt 93 (.pointer (some ⟨g, m, none⟩)) (.int .i64 (n : Int))).run Tryz.prog W = .ok (.pointer (some ⟨g, m + n, none⟩)) W := by
 have h0 : (0 : Int) ≤ (n : Int) := by omega
 have h1 : (n : Int) < 8 := by omega
 go_simp
theorem zero88 : (Tryz.prog.info? 94).bind (·.zero) = some (.agg (bv (List.replicate 64 0))) := by kernel_rfl
theorem elt_intB : Elt Tryz.prog 47 3 1 8 := ⟨Tryz.underlying47, by kernel_rfl, by omega⟩
theorem own_built {w : World} {base : Nat} (e : TypeId) (cs : Array Value) (n : Nat) (hn : cs.size = n) (hb : base ≤ w.heap.size) (h63 : n ≤ 9223372036854775807) :
 (w.alloc (.cells cs e)).ownsRow base e 1 (.slice (some ⟨w.heap.size, 0, none⟩) n n) n cs.toList := by
 subst hn
 refine ⟨by simp, .inr ⟨w.heap.size, cs.size, cs, rfl, hb, heap_alloc_new w _, by omega, by unfold maxLen; omega, by omega, by simp [List.take_of_length_le]⟩⟩
theorem wl_take (k : Nat) (h : k < 32) : wl.take (k + 1) = wl.take k ++ [wv k] := by
 have hl : k < wl.length := h
 rw [List.take_succ_eq_append_getElem hl]
 simp [wv, List.getD_eq_getElem?_getD, hl]
theorem wl_at (k n : Nat) (h : n ≤ 32) (hk : k < n) : (ints (wl.take n))[k]? = some (.int .i64 (wv k)) := by
 have hl : k < wl.length := by show k < 32; omega
 simp [ints, List.getElem?_take_of_lt hk, wv, List.getD_eq_getElem?_getD, hl]
theorem wl9 : ints (wl.take 9) = [.int .i64 4096, .int .i64 4017, .int .i64 3784, .int .i64 3406, .int .i64 2896, .int .i64 2276, .int .i64 1567, .int .i64 799, .int .i64 0] := by rfl
set_option maxHeartbeats 800000 in
theorem rbasis_any (u x : Nat) (w : World) (hu : u ≤ 7) (hx : x ≤ 7) : Calls Tryz.prog 62 #[.int .i64 u, .int .i64 x] w fun e w' => e = .returned (.int .i64 (basisZ u x)) ∧ Ext w w' := by
 by_cases h0 : u = 0
 ·subst h0
  go_enter Tryz.func62, Tryz.ntmps62
  go_wp2_with fail
  go_ret
  exact ⟨rfl, Ext.refl w⟩
 ·have hp : (u : Int) * (2 * x + 1) ≤ 7 * (2 * x + 1) := Int.mul_le_mul_of_nonneg_right (by omega) (by omega)
  have hp2 : 0 ≤ (u : Int) * (2 * x + 1) := Int.mul_nonneg (by omega) (by omega)
  obtain ⟨m, hm, hm32⟩ : ∃ m : Nat, (u : Int) * (2 * x + 1) % 32 = (m : Int) ∧ m < 32 := ⟨u * (2 * x + 1) % 32, by simp, Nat.mod_lt _ (by omega)⟩
  have hf : basisZ u x = wv m := by
   unfold basisZ; rw [if_neg h0]
   have : ((u * (2 * x + 1) % 32 : Nat) : Int) = (m : Int) := by rw [← hm]; simp
   have e : u * (2 * x + 1) % 32 = m := by exact_mod_cast this
   rw [e]
  have HF := hid_ hf
  have hne : ((u : Int) == 0) = false := by simpa using h0
  have HM := hid_ hm
  have HP := hid_ (And.intro hp hp2)
  clear hm hf h0 hp hp2
  go_enter Tryz.func62, Tryz.ntmps62
  go_wp2_with fail
  have hown0 := own_built (w := w) 3 #[.int .i64 4096, .int .i64 4017, .int .i64 3784, .int .i64 3406, .int .i64 2896, .int .i64 2276, .int .i64 1567, .int .i64 799, .int .i64 0] 9 rfl (Nat.le_refl _) (by omega)
  rw [show (#[Value.int .i64 4096, .int .i64 4017, .int .i64 3784, .int .i64 3406, .int .i64 2896, .int .i64 2276, .int .i64 1567, .int .i64 799, .int .i64 0] : Array Value).toList = ints (wl.take 9) from wl9.symm] at hown0
  have hx0 := (Ext.refl w).alloc (.cells #[.int .i64 4096, .int .i64 4017, .int .i64 3784, .int .i64 3406, .int .i64 2896, .int .i64 2276, .int .i64 1567, .int .i64 799, .int .i64 0] 3)
  generalize (w.alloc (.cells #[.int .i64 4096, .int .i64 4017, .int .i64 3784, .int .i64 3406, .int .i64 2896, .int .i64 2276, .int .i64 1567, .int .i64 799, .int .i64 0] 3)) = w0 at *
  go_loopw [5, 6] (fun v i wr => ∃ k : Nat, 9 ≤ k ∧ k ≤ 17 ∧ i = .int .i64 k ∧ wr.ownsRow w.heap.size 3 1 v k (ints (wl.take k)) ∧ Ext w wr) (fun _ i _ => 17 - (intOf i).toNat)
  case atStart => exact ⟨9, by omega, by omega, rfl, hown0, hx0⟩
  case round =>
   obtain ⟨k, hk9, hk, rfl, hown, hx⟩ := hrel
   by_cases hlt : k ≤ 16
   ·obtain ⟨A, c, rfl, hsl, hfs⟩ := own_form hown
    have hk16 : 16 - k < k := by omega
    obtain ⟨ad, u, rfl, -, hxo, hco⟩ := hsl.at1 hk16
    rw [wl_at (16 - k) k (by omega) hk16] at hxo
    injection hxo with hxo
    subst hxo
    obtain ⟨hb1, hb2⟩ := wv_bounds (16 - k) (by omega)
    have HN := hid_ (wv_mid k (by omega) hlt)
    generalize wv (16 - k) = z at *
    go_wp2_with (at_builtin; go_must (refine wpList_append_sl elt_intB rfl _ _ rfl w.heap.size _ _ _ rfl (hown.alloc _) _ 1 [.int .i64 _] rfl (one_sl _ _ _) (int_one _) (by omega) (by omega) (by have := hx.size; simp; omega) ?_); intro v' w7 hown7 hb7)
    go_roundw
    case rel =>
     refine ⟨k + 1, by omega, by omega, by go_num, ?_, (hx.alloc _).trans' hb7⟩
     rw [wl_take k (by omega), ← HN.out]
     simpa [ints] using hown7
    case measure => simp [intOf]; omega
   ·have e17 : (k : Int) = 17 := by omega
    have e17' : k = 17 := by omega
    rw [e17'] at hown
    rw [e17]
    clear e17 e17' hk9 hk hlt
    go_wp2_with fail
    go_loopw [5, 7] (fun v i wr => ∃ k : Nat, 17 ≤ k ∧ k ≤ 32 ∧ i = .int .i64 k ∧ wr.ownsRow w.heap.size 3 1 v k (ints (wl.take k)) ∧ Ext w wr) (fun _ i _ => 32 - (intOf i).toNat)
    case atStart => exact ⟨17, by omega, by omega, rfl, hown, hx⟩
    case round =>
     clear hown hx
     obtain ⟨k, hk17, hk, rfl, hown, hx⟩ := hrel
     by_cases hlt : k < 32
     ·obtain ⟨A, c, rfl, hsl, hfs⟩ := own_form hown
      have hk16 : 32 - k < k := by omega
      obtain ⟨ad, u, rfl, -, hxo, hco⟩ := hsl.at1 hk16
      rw [wl_at (32 - k) k (by omega) hk16] at hxo
      injection hxo with hxo
      subst hxo
      have HN := hid_ (wv_hi k (by omega) hlt)
      generalize wv (32 - k) = z at *
      go_wp2_with (at_builtin; go_must (refine wpList_append_sl elt_intB rfl _ _ rfl w.heap.size _ _ _ rfl (hown.alloc _) _ 1 [.int .i64 _] rfl (one_sl _ _ _) (int_one _) (by omega) (by omega) (by have := hx.size; simp; omega) ?_); intro v' w7 hown7 hb7)
      go_roundw
      case rel =>
       refine ⟨k + 1, by omega, by omega, by go_num, ?_, (hx.alloc _).trans' hb7⟩
       rw [wl_take k (by omega), ← HN.out]
       simpa [ints] using hown7
      case measure => simp [intOf]; omega
     ·obtain rfl : k = 32 := by omega
      obtain ⟨A, c, rfl, hsl, hfs⟩ := own_form hown
      obtain ⟨ad, u', rfl, -, hxo, hco⟩ := hsl.at1 hm32
      rw [wl_at m 32 (by omega) hm32] at hxo
      injection hxo with hxo
      subst hxo
      have hm := HM.out
      obtain ⟨hp, hp2⟩ := HP.out
      generalize wv m = z at *
      go_wp2_with fail
      go_ret
      exact ⟨by rw [HF.out]; rfl, hx⟩
end Go.Proofs.YtlhggcbpipmjhaaGreatDoor
