/- Contracts for the law DeskRunsCard, part 10: what the functions that it reaches answer, for all arguments that the theorems name. -/
import Derived.Lib.AppendIntMem
import Derived.Lib.AtoiErrMem
import Derived.Test.YtlhggcbpipmjhaaGreatDoorMDeskRunsCard2
import Derived.Test.YtlhggcbpipmjhaaGreatDoorMDeskRunsCard1
import Derived.Test.YtlhggcbpipmjhaaGreatDoorMDeskRunsCard7
import Derived.Lib.ItoaLen
import Derived.Great.Walk
import Derived.Test.YtlhggcbpipmjhaaGreatDoorMDeskRunsCard4
import Derived.Test.YtlhggcbpipmjhaaGreatDoorMDeskRunsCard6
import Derived.Test.YtlhggcbpipmjhaaGreatDoorMDeskRunsCard5
import Derived.Deep.MidRow
namespace Go.Proofs.YtlhggcbpipmjhaaGreatDoor
set_option linter.unusedVariables false
set_option linter.unusedSimpArgs false
open Go.RowKit
theorem trim_is (l : List UInt8) : Lib.trimPrefix l [45] = trimM l := by
 unfold Lib.trimPrefix Lib.hasPrefix trimM
 cases l with
 | nil => rfl
 | cons a r =>
   by_cases h : a = 45
   ·subst h; rfl
   ·have h1 : ([45] : List UInt8).isPrefixOf (a :: r) = false := by simp [List.isPrefixOf, Ne.symm h]
    rw [h1, if_neg (by simp), if_neg (by simpa using h)]
theorem str_eq (s : ByteArray) (l : List UInt8) : ((⟨l.toArray⟩ : ByteArray).toList == s.toList) = decide (l = s.data.toList) := by
 rw [Lib.toList_data, Lib.toList_data]
 rw [Bool.eq_iff_iff]
 simp
theorem ext_bytes {w : World} {e : TypeId} {t : ByteArray} : Ext w (Lib.bytesWorld w e t) := Lib.bytesWorld_below w e t
theorem ex_eqS {o : Oper} {a : Act} {x y : Operand} {t2 : TypeId} (ho : o.op = .binOp .eql 9 x y t2) {s u : ByteArray} (hx : a.eval x = .string s) (hy : a.eval y = .string u) {b : Bool} (h : (s.toList == u.toList) = b) (w : World) : (execOp a.eval o).run Tryz.prog w = .ok (.value (.bool b)) w := by
 subst h
 simp [execOp, ho, hx, hy]
 go_simp
theorem ex_lenS {o : Oper} {a : Act} {x : Operand} (ho : o.op = .call { callee := .builtin .len, args := #[x], argTypes := #[9] }) {l : List UInt8} (hx : a.eval x = .string ⟨l.toArray⟩) (w : World) : (execOp a.eval o).run Tryz.prog w = .ok (.value (.int .i64 (l.length : Int))) w := by
 have e : (⟨l.toArray⟩ : ByteArray).size = l.length := by simp [ByteArray.size]
 simp [execOp, ho, resolve, invoke, builtin, hx, Result.andThen, Builtin.len_, goInt, e]
theorem number_any (s : ByteArray) (hs : s.size ≤ 300) (tp1 tp2 : TypeId) (p1 p2 : Value) (w : World)
 (htab : ∀ W, Ext w W → Lib.TabIs Tryz.prog W "internal/strconv.uint64pow10" .u64 Lib.pow10Tab)
 (h1 : w.var? Tryz.prog "strconv.ErrSyntax" = some #[.iface tp1 p1]) (h2 : w.var? Tryz.prog "strconv.ErrRange" = some #[.iface tp2 p2]) :
 Calls Tryz.prog 15 #[.string s] w fun e w' => ∃ n is, e = .returned (.tuple #[.int .i64 n, .bool is]) ∧ (if is = true then some n else none) = numP s.data.toList ∧ Ext w w' := by
 cases h : Lib.atoiAll s.data.toList
 case ok v =>
  have hb := Lib.atoiAll_bounds h
  have HA := hid_ (fun W => Tryz.strconv_Atoi_ok s (by omega) v h W)
  have HI := hid_ (fun W hx => Tryz.strconv_Itoa v (by omega) (by omega) W (htab W hx))
  have HT := hid_ (fun W => Tryz.strings_TrimPrefix s ⟨#[45]⟩ W)
  have HSQ := hid_ (str_eq s (Lib.itoa v))
  have hlt : (trimM s.data.toList).length ≤ 9223372036854775807 := by
   unfold trimM
   have := Lib.size_eq s
   split
   ·rw [List.length_drop]; omega
   ·omega
  have hN : numP s.data.toList = if Lib.itoa v = s.data.toList ∧ (trimM s.data.toList).length ≤ 9 then some v else none := by
   unfold numP
   rw [h]
  have e45 : (⟨#[45]⟩ : ByteArray).data.toList = [45] := rfl
  rw [e45, trim_is] at HT
  rw [hN]
  clear hN h
  generalize trimM s.data.toList = T at *
  by_cases hI : Lib.itoa v = s.data.toList
  ·have HE : Hid (((⟨(Lib.itoa v).toArray⟩ : ByteArray).toList == s.toList) = true) := hid_ (by rw [HSQ.out]; simpa using hI)
   by_cases hT : T.length ≤ 9
   ·have HL : Hid (decide ((T.length : Int) ≤ 9) = true) := hid_ (by simp; omega)
    rw [if_pos ⟨hI, hT⟩]
    clear hI hT
    generalize Lib.itoa v = I at *
    go_enter Tryz.func15, Tryz.ntmps15
    go_wp2_with (first
     | (go_at_call 50; (with_reducible refine (HA.out w).mono ?_); rintro e w1 ⟨rfl, hw1⟩; have hx1 : Ext w w1 := hw1.elim (fun e => e ▸ Ext.refl w) (fun e => e.elim fun t e => e ▸ ext_bytes))
     | (go_at_call 8; (with_reducible refine (HI.out w1 hx1).mono ?_); rintro e w2 ⟨rfl, k2, os2, rfl⟩; have hx2 := hx1.trans (Lib.below_grow _ w1 (Nat.le_refl _) k2 os2))
     | ((with_reducible apply gS 18); refine wl_run_g (by rfl) (.bool true) (ex_eqS rfl rfl rfl HE.out) ?_)
     | (go_at_call 51; (with_reducible refine (HT.out _).mono ?_); rintro e w3 ⟨rfl, rfl⟩)
     | ((with_reducible apply gS 23); refine wl_run_g (by rfl) (.int .i64 (T.length : Int)) (ex_lenS rfl rfl) ?_)
     | ((with_reducible apply gS 24); refine wl_run_g (by rfl) (.bool true) (ex_leq rfl rfl rfl HL.out) ?_))
    go_ret2
    exact ⟨_, _, rfl, rfl, hx2⟩
   ·have HL : Hid (decide ((T.length : Int) ≤ 9) = false) := hid_ (by simp; omega)
    rw [if_neg (fun h => hT h.2)]
    clear hI hT
    generalize Lib.itoa v = I at *
    go_enter Tryz.func15, Tryz.ntmps15
    go_wp2_with (first
     | (go_at_call 50; (with_reducible refine (HA.out w).mono ?_); rintro e w1 ⟨rfl, hw1⟩; have hx1 : Ext w w1 := hw1.elim (fun e => e ▸ Ext.refl w) (fun e => e.elim fun t e => e ▸ ext_bytes))
     | (go_at_call 8; (with_reducible refine (HI.out w1 hx1).mono ?_); rintro e w2 ⟨rfl, k2, os2, rfl⟩; have hx2 := hx1.trans (Lib.below_grow _ w1 (Nat.le_refl _) k2 os2))
     | ((with_reducible apply gS 18); refine wl_run_g (by rfl) (.bool true) (ex_eqS rfl rfl rfl HE.out) ?_)
     | (go_at_call 51; (with_reducible refine (HT.out _).mono ?_); rintro e w3 ⟨rfl, rfl⟩)
     | ((with_reducible apply gS 23); refine wl_run_g (by rfl) (.int .i64 (T.length : Int)) (ex_lenS rfl rfl) ?_)
     | ((with_reducible apply gS 24); refine wl_run_g (by rfl) (.bool false) (ex_leq rfl rfl rfl HL.out) ?_))
    go_ret2
    exact ⟨_, _, rfl, rfl, hx2⟩
  ·have HE : Hid (((⟨(Lib.itoa v).toArray⟩ : ByteArray).toList == s.toList) = false) := hid_ (by rw [HSQ.out]; simpa using hI)
   rw [if_neg (fun h => hI h.1)]
   clear hI
   generalize Lib.itoa v = I at *
   go_enter Tryz.func15, Tryz.ntmps15
   go_wp2_with (first
    | (go_at_call 50; (with_reducible refine (HA.out w).mono ?_); rintro e w1 ⟨rfl, hw1⟩; have hx1 : Ext w w1 := hw1.elim (fun e => e ▸ Ext.refl w) (fun e => e.elim fun t e => e ▸ ext_bytes))
    | (go_at_call 8; (with_reducible refine (HI.out w1 hx1).mono ?_); rintro e w2 ⟨rfl, k2, os2, rfl⟩; have hx2 := hx1.trans (Lib.below_grow _ w1 (Nat.le_refl _) k2 os2))
    | ((with_reducible apply gS 18); refine wl_run_g (by rfl) (.bool false) (ex_eqS rfl rfl rfl HE.out) ?_))
   go_ret2
   exact ⟨_, _, rfl, rfl, hx2⟩
 case range =>
  have HA := hid_ (Tryz.strconv_Atoi_range_var s (by omega) h tp2 p2 w h2)
  have hN : numP s.data.toList = none := by unfold numP; rw [h]
  rw [hN]
  go_enter Tryz.func15, Tryz.ntmps15
  go_wp2_with (go_at_call 50; (with_reducible refine HA.out.mono ?_); rintro e w1 ⟨N, rfl, hN1, hN2, hx1⟩)
  go_ret2
  exact ⟨_, _, rfl, rfl, hx1⟩
 case _ =>
  have HA : Hid (Calls Tryz.prog 50 #[.string s] w fun e w' => ∃ N, e = .returned (.tuple #[.int .i64 0, .iface 145 (.pointer (some ⟨N, 0, none⟩))]) ∧ w.heap.size ≤ N ∧ w'.heap[N]? = some (.cells #[.string ⟨#[65, 116, 111, 105]⟩, .string s, .iface tp1 p1] 169 (0, 0)) ∧ Below w.heap.size w w') := hid_ (Any.strconv_Atoi_syntax_var Tryz.laysC172 s (by omega) h tp1 p1 w h1)
  have hN : numP s.data.toList = none := by unfold numP; rw [h]
  rw [hN]
  go_enter Tryz.func15, Tryz.ntmps15
  go_wp2_with (go_at_call 50; (with_reducible refine HA.out.mono ?_); rintro e w1 ⟨N, rfl, hN1, hN2, hx1⟩)
  go_ret2
  exact ⟨_, _, rfl, rfl, hx1⟩
theorem ex_runeS {o : Oper} {a : Act} {x : Operand} (ho : o.op = .convert 21 9 x) {d k : Nat} {b : UInt8} (h : d < 10) (hk' : 48 + d = k) (hb : UInt8.ofNat (48 + d) = b) (hx : a.eval x = .int .i32 (k : Int)) (w : World) : (execOp a.eval o).run Tryz.prog w = .ok (.value (.string ⟨[b].toArray⟩)) w := by
 subst hk' hb
 have hk : ∀ d : Fin 10, (execOp (fun _ => .int .i32 ((48 + d.val : Nat) : Int)) { o with op := .convert 21 9 (.tmp 0) }).run Tryz.prog w = .ok (.value (.string ⟨[UInt8.ofNat (48 + d.val)].toArray⟩)) w := by
  intro d
  match d with
  | ⟨0, _⟩ => simp [execOp]; go_simp; rfl
  | ⟨1, _⟩ => simp [execOp]; go_simp; rfl
  | ⟨2, _⟩ => simp [execOp]; go_simp; rfl
  | ⟨3, _⟩ => simp [execOp]; go_simp; rfl
  | ⟨4, _⟩ => simp [execOp]; go_simp; rfl
  | ⟨5, _⟩ => simp [execOp]; go_simp; rfl
  | ⟨6, _⟩ => simp [execOp]; go_simp; rfl
  | ⟨7, _⟩ => simp [execOp]; go_simp; rfl
  | ⟨8, _⟩ => simp [execOp]; go_simp; rfl
  | ⟨9, _⟩ => simp [execOp]; go_simp; rfl
 have := hk ⟨d, h⟩
 simpa [execOp, ho, hx] using this
theorem ex_addS {o : Oper} {a : Act} {x y : Operand} {t2 : TypeId} (ho : o.op = .binOp .add 9 x y t2) {l m : List UInt8} (hx : a.eval x = .string ⟨l.toArray⟩) (hy : a.eval y = .string ⟨m.toArray⟩) (hlen : l.length + m.length ≤ 1000000000) (w : World) : (execOp a.eval o).run Tryz.prog w = .ok (.value (.string ⟨(l ++ m).toArray⟩)) w := by
 have e : (⟨l.toArray⟩ : ByteArray) ++ (⟨m.toArray⟩ : ByteArray) = ⟨(l ++ m).toArray⟩ := by
  apply ByteArray.ext
  simp
 simp [execOp, ho, hx, hy, e]
 go_simp
 omega
theorem ex_conv32 {o : Oper} {a : Act} {x : Operand} (ho : o.op = .convert 3 21 x) {k : Nat} (h : k < 1000) (hx : a.eval x = .int .i64 (k : Int)) (w : World) : (execOp a.eval o).run Tryz.prog w = .ok (.value (.int .i32 (k : Int))) w := by
 have e : IntKind.i32.wrap (k : Int) = k := by simp [IntKind.wrap, IntKind.signed, IntKind.bits]; omega
 simp [execOp, ho, hx]
 go_simp
theorem itoa_len {n : Int} (h : -9000000000000000000 ≤ n ∧ n ≤ 9000000000000000000) : (Lib.itoa n).length ≤ 30 := by
 have hd : ∀ m : Nat, m ≤ 9000000000000000000 → (Lib.decDigits m).length ≤ 20 := fun m hm => by
  rw [Lib.decDigits_length]
  exact Lib.nDigits_le20 m (by omega)
 unfold Lib.itoa
 split
 ·have := hd n.natAbs (by omega)
  simp only [List.length_cons]
  omega
 ·have := hd n.toNat (by omega)
  omega
theorem digits_nat (m : Nat) (hm : m ≤ 900000000000) (w : World) : Calls Tryz.prog 11 #[.int .i64 (m : Int)] w fun e w' => e = .returned (.string ⟨(Lib.itoa (m : Int)).toArray⟩) ∧ w = w' := by
 induction m using Nat.strongRecOn generalizing w with
 | _ m ih =>
   by_cases h : m < 10
   ·have e : Lib.itoa (m : Int) = [UInt8.ofNat (48 + m)] := by
     have := itoa_lo (n := (m : Int)) (by omega) (by omega)
     rwa [Int.toNat_natCast] at this
    rw [e]
    obtain ⟨b, hb⟩ : ∃ b, UInt8.ofNat (48 + m) = b := ⟨_, rfl⟩
    have HB := hid_ hb
    rw [hb]
    obtain ⟨k, hk⟩ : ∃ k, 48 + m = k := ⟨_, rfl⟩
    have HK := hid_ hk
    have hk9 : k < 1000 := by omega
    clear hb e hk ih
    go_enter Tryz.func11, Tryz.ntmps11
    go_wp2_with (first
     | ((with_reducible apply gS 12); refine wl_run rfl (.int .i64 (k : Int)) (by rw [← HK.out]; exact ex_addN (i := 48) (d := m) rfl rfl rfl (by omega)) ?_)
     | ((with_reducible apply gS 13); refine wl_run rfl (.int .i32 (k : Int)) (ex_conv32 rfl hk9 rfl) ?_)
     | ((with_reducible apply gS 14); refine wl_run rfl (.string ⟨[b].toArray⟩) (ex_runeS rfl h HK.out HB.out rfl) ?_))
    go_ret
    exact ⟨rfl, rfl⟩
   ·have e : Lib.itoa (m : Int) = Lib.itoa ((m / 10 : Nat) : Int) ++ [UInt8.ofNat (48 + m % 10)] := by
     have h1 := itoa_hi (n := (m : Int)) (by omega) (by omega)
     have h2 := itoa_lo (n := ((m % 10 : Nat) : Int)) (by omega) (by omega)
     rw [Int.toNat_natCast] at h2
     rw [← h2, h1]
     congr 2 <;> omega
    have HR := hid_ (fun W => ih (m / 10) (by omega) (by omega) W)
    have HL := hid_ (itoa_len (n := ((m / 10 : Nat) : Int)) (by omega))
    rw [e]
    generalize Lib.itoa ((m / 10 : Nat) : Int) = I at *
    have hd := Nat.mod_lt m (show 0 < 10 by omega)
    obtain ⟨d, hdd⟩ : ∃ d, m % 10 = d := ⟨_, rfl⟩
    have HD := hid_ hdd
    obtain ⟨q, hqq⟩ : ∃ q, m / 10 = q := ⟨_, rfl⟩
    have HQ := hid_ hqq
    rw [hqq] at HR
    rw [hdd] at hd ⊢
    obtain ⟨b, hb⟩ : ∃ b, UInt8.ofNat (48 + d) = b := ⟨_, rfl⟩
    have HB := hid_ hb
    rw [hb]
    obtain ⟨k, hk⟩ : ∃ k, 48 + d = k := ⟨_, rfl⟩
    have HK := hid_ hk
    have hk9 : k < 1000 := by omega
    clear e hdd hqq ih hb hk
    go_enter Tryz.func11, Tryz.ntmps11
    go_wp2_with (first
     | ((with_reducible apply gS 16); refine wl_run rfl (.int .i64 (q : Int)) (by rw [← HQ.out]; exact ex_quoN (i := m) (d := 10) rfl rfl rfl (by omega) (by omega)) ?_)
     | (go_at_call 11; (with_reducible refine (HR.out _).mono ?_); rintro e' w1 ⟨rfl, rfl⟩)
     | ((with_reducible apply gS 19); refine wl_run rfl (.int .i64 (d : Int)) (by rw [← HD.out]; exact ex_remN (i := m) (d := 10) rfl rfl rfl (by omega) (by omega)) ?_)
     | ((with_reducible apply gS 20); refine wl_run rfl (.int .i64 (k : Int)) (by rw [← HK.out]; exact ex_addN (i := 48) (d := d) rfl rfl rfl (by omega)) ?_)
     | ((with_reducible apply gS 21); refine wl_run rfl (.int .i32 (k : Int)) (ex_conv32 rfl hk9 rfl) ?_)
     | ((with_reducible apply gS 22); refine wl_run rfl (.string ⟨[b].toArray⟩) (ex_runeS rfl hd HK.out HB.out rfl) ?_)
     | ((with_reducible apply gS 23); refine wl_run rfl (.string ⟨(I ++ [b]).toArray⟩) (ex_addS rfl rfl rfl (by have := HL.out; simp only [List.length_cons, List.length_nil]; omega)) ?_))
    go_ret
    exact ⟨rfl, rfl⟩
theorem digits_any (n : Int) (hn : -900000000000 ≤ n ∧ n ≤ 900000000000) (w : World) : Calls Tryz.prog 11 #[.int .i64 n] w fun e w' => e = .returned (.string ⟨(Lib.itoa n).toArray⟩) ∧ w = w' := by
 by_cases h : n < 0
 ·obtain ⟨m, hm⟩ : ∃ m : Nat, -n = (m : Int) := ⟨n.natAbs, by omega⟩
  have e := itoa_neg h
  have HR := hid_ (fun W => digits_nat m (by omega) W)
  have HL := hid_ (itoa_len (n := (m : Int)) (by omega))
  rw [e, hm]
  generalize Lib.itoa (m : Int) = I at *
  have HN : Hid (∀ W : World, (IntKind.i64.wrap (-n)) = (m : Int)) := hid_ (fun _ => by rw [hm]; exact IntWalk.i64_in _ (by omega))
  clear e
  go_enter Tryz.func11, Tryz.ntmps11
  go_wp2_with (first
   | (go_at_call 11; (with_reducible refine (HR.out _).mono ?_); rintro e' w1 ⟨rfl, rfl⟩)
   | ((with_reducible apply gS 8); refine wl_run rfl (.string ⟨(([45] : List UInt8) ++ I).toArray⟩) (ex_addS (l := [45]) rfl rfl rfl (by have := HL.out; simp only [List.length_cons, List.length_nil]; omega)) ?_))
  go_ret
  exact ⟨rfl, rfl⟩
 ·obtain ⟨m, rfl⟩ : ∃ m : Nat, n = (m : Int) := ⟨n.toNat, by omega⟩
  exact digits_nat m (by omega) w
theorem toldZ_len : ∀ (k : Nat) (l : List Int), l.length = k → (∀ n ∈ l, -900000000000 ≤ n ∧ n ≤ 900000000000) → (toldZ l).length ≤ 31 * k
 | 0, l, h, _ => by
   have : l = [] := List.eq_nil_of_length_eq_zero h
   subst this
   exact Nat.zero_le _
 | k + 1, l, h, hb => by
   have hne : l ≠ [] := fun e => by subst e; simp at h
   obtain ⟨q, n, rfl⟩ : ∃ q n, l = q ++ [n] := ⟨l.dropLast, l.getLast hne, (List.dropLast_concat_getLast hne).symm⟩
   have ih := toldZ_len k q (by simp at h; omega) (fun x hx => hb x (by simp [hx]))
   have hn := itoa_len (n := n) (by have := hb n (by simp); omega)
   rw [toldZ_snoc]
   split
   ·omega
   ·rw [List.length_append, List.length_cons]
    omega
set_option maxHeartbeats 2000000 in
theorem numbers_any (v : Value) (l : List Int) (hl : l.length ≤ 1000) (hb : ∀ n ∈ l, -900000000000 ≤ n ∧ n ≤ 900000000000) (w : World) (hv : SL w 1 v l.length (ints l)) :
 Calls Tryz.prog 21 #[v] w fun e w' => e = .returned (.string ⟨(toldZ l).toArray⟩) ∧ Ext w w' := by
 obtain ⟨A, c, rfl, -⟩ := id hv
 obtain ⟨N, hN⟩ : ∃ N, l.length = N := ⟨_, rfl⟩
 have HN := hid_ hN
 have HB := hid_ hb
 rw [hN] at hv hl ⊢
 have HV := hid_ hv
 clear hb hN hv
 go_enter Tryz.func21, Tryz.ntmps21
 go_wp2_with fail
 go_loopw [3, 8] (fun sv iv wr => ∃ (k : Nat) (S : List UInt8), k ≤ N ∧ iv = .int .i64 (k : Int) ∧ sv = .string ⟨S.toArray⟩ ∧ Hid (S = toldZ (l.take k)) ∧ Ext w wr) (fun _ iv _ => N - (intOf iv).toNat)
 case atStart => exact ⟨0, [], by omega, rfl, rfl, hid_ rfl, Ext.refl w⟩
 case round =>
  obtain ⟨k, S, hk, rfl, rfl, HS, hx⟩ := hrel
  by_cases hlt : k < N
  ·obtain ⟨ad, u, hA, hab, hu, hc⟩ := (HV.out.ext hx).at1 hlt
   have hkl : k < l.length := by rw [HN.out]; exact hlt
   have huu : u = .int .i64 l[k] := by
    obtain ⟨h1, h2⟩ := ints_at _ _ _ hu
    exact h2
   subst huu hA
   have hbk := HB.out l[k] (List.getElem_mem hkl)
   have hts : l.take (k + 1) = l.take k ++ [l[k]] := by rw [List.take_succ_eq_append_getElem hkl]
   have hsl := toldZ_len k (l.take k) (by rw [List.length_take]; omega) (fun n hn => HB.out n (List.mem_of_mem_take hn))
   rw [← HS.out] at hsl
   have hs1 := toldZ_snoc (l.take k) l[k]
   rw [← hts, ← HS.out] at hs1
   have hil := itoa_len (n := l[k]) (by omega)
   generalize l[k] = n at *
   have HD := hid_ (fun W => digits_any n hbk W)
   have HIL := hid_ hil
   have HSL := hid_ (show S.length ≤ 31000 by omega)
   obtain ⟨I, hI⟩ : ∃ I, Lib.itoa n = I := ⟨_, rfl⟩
   rw [hI] at HD HIL hs1
   by_cases h0 : k = 0
   ·have HE : Hid (toldZ (l.take (k + 1)) = S ++ I) := hid_ (by
     rw [hs1, if_pos (by rw [h0]; rfl)]
     have : S = [] := by rw [HS.out, h0]; rfl
     rw [this]; rfl)
    have HK0 : Hid (decide ((0 : Int) < (k : Int)) = false) := hid_ (by simp [h0])
    clear hs1 hts hI h0 hil hsl hbk hkl HB
    go_wp2_with (first
     | ((with_reducible apply gS 14); refine wl_run rfl (.bool false) (ex_gtr rfl rfl rfl HK0.out) ?_)
     | (go_at_call 11; (with_reducible refine (HD.out _).mono ?_); rintro e' w1 ⟨rfl, rfl⟩)
     | ((with_reducible apply gS 20); refine wl_run rfl (.string ⟨(S ++ I).toArray⟩) (ex_addS rfl rfl rfl (by have := HIL.out; have := HSL.out; omega)) ?_))
    go_roundw
    case rel => exact ⟨k + 1, S ++ I, by omega, by go_num, rfl, hid_ HE.out.symm, hx⟩
    case measure => simp [intOf]; omega
   ·have HE : Hid (toldZ (l.take (k + 1)) = S ++ 32 :: I) := hid_ (by
     rw [hs1, if_neg (fun e => by have h9 := congrArg List.length e; simp only [List.length_take, List.length_nil] at h9; omega)])
    have HK0 : Hid (decide ((0 : Int) < (k : Int)) = true) := hid_ (by simp; omega)
    clear hs1 hts hI h0 hil hsl hbk hkl HB
    go_wp2_with (first
     | ((with_reducible apply gS 14); refine wl_run rfl (.bool true) (ex_gtr rfl rfl rfl HK0.out) ?_)
     | ((with_reducible apply gS 16); refine wl_run rfl (.string ⟨(S ++ [32]).toArray⟩) (ex_addS (m := [32]) rfl rfl rfl (by have := HSL.out; simp only [List.length_cons, List.length_nil]; omega)) ?_)
     | (go_at_call 11; (with_reducible refine (HD.out _).mono ?_); rintro e' w1 ⟨rfl, rfl⟩)
     | ((with_reducible apply gS 20); refine wl_run rfl (.string ⟨((S ++ [32]) ++ I).toArray⟩) (ex_addS rfl rfl rfl (by have := HIL.out; have := HSL.out; simp only [List.length_append, List.length_cons, List.length_nil]; omega)) ?_))
    go_roundw
    case rel => exact ⟨k + 1, S ++ 32 :: I, by omega, by go_num, rfl, hid_ HE.out.symm, hx⟩
    case measure => simp [intOf]; omega
  ·have ek : k = N := by omega
   have HE : Hid (S = toldZ l) := hid_ (by rw [HS.out, ek, ← HN.out, List.take_length])
   subst ek
   go_wp2_with fail
   go_ret
   exact ⟨by rw [← HE.out]; rfl, hx⟩
theorem fold_set (l : List Value) : ∀ (k : Nat) (a : Array Value), a.size = k + l.length → (l.zipIdx k).foldl (fun cs (p : Value × Nat) => cs.setIfInBounds (0 + p.2) p.1) a = (a.toList.take k ++ l).toArray := by
 induction l with
 | nil =>
   intro k a h
   simp at h
   apply Array.ext'
   simp [List.take_of_length_le, h]
 | cons v l ih =>
   intro k a h
   rw [List.zipIdx_cons, List.foldl_cons, ih (k + 1) _ (by simp at h ⊢; omega)]
   apply Array.ext'
   simp only [Nat.zero_add, Array.toList_setIfInBounds]
   have hk : k < a.toList.length := by simp at h ⊢; omega
   rw [List.take_add_one, List.take_set_of_le (by omega), List.getElem?_set_self hk]
   simp
theorem fill_one (v : Value) (n : Nat) (a : Array Value) (hv : v.cells.size = n) (ha : a.size = n) : Instr.fill (fun i => some (i * n, n)) a [(0, v)] = some v.cells := by
 have e : v.cells.zipIdx.foldl (fun cs (p : Value × Nat) => cs.setIfInBounds (0 + p.2) p.1) a = v.cells := by
  have h := fold_set v.cells.toList 0 a (by simp; omega)
  rw [← Array.foldl_toList]
  simpa using h
 simp only [Nat.zero_add] at e
 have e2 : Array.foldl (fun cs (x : Value × Nat) => cs.setIfInBounds x.2 x.1) a v.cells.zipIdx 0 n = v.cells := by
  have hn : n = v.cells.zipIdx.size := by simp [hv]
  rw [hn]
  exact e
 simp [Instr.fill, hv, ha, e2]
theorem builtSlice_one {P : Program} {e : TypeId} {n : Nat} (v : Value) (hs : (P.info? e).map (·.size) = some n) (hz : ((P.info? e).bind (·.zero)).isSome = true) (hv : v.cells.size = n) (h0 : 0 < n) (h1 : n ≤ 16777216) : P.builtSlice e 1 [(0, v)] = some v.cells := by
 unfold Program.builtSlice
 cases hq : P.info? e with
 | none => simp [hq] at hs
 | some i =>
   have hi : i.size = n := by simpa [hq] using hs
   cases hzz : i.zero with
   | none => simp [hq, hzz] at hz
   | some z =>
     simp only [hi, hzz, Nat.one_mul]
     rw [if_neg (by omega)]
     exact fill_one v n _ hv (by simp)
theorem wLit1 {P : Program} {ops : Array Oper} {rest : List Oper} {o : Oper} {a : Act} {w : World} {Q : Exit → Act → World → Prop} (hg : o.guard = none) (t e : TypeId) (x : Operand) (ho : o.op = .buildSlice t 1 #[(0, x)]) (dst : Option Tmp) (hdst : o.dst = dst)
 (ht : P.underlying t = some (.slice e)) (n : Nat) (hs : (P.info? e).map (·.size) = some n) (hz : ((P.info? e).bind (·.zero)).isSome = true) (v : Value) (hx : a.eval x = v) (hv : v.cells.size = n) (h0 : 0 < n) (h1 : n ≤ 16777216)
 (h : ∀ w1 g, Blk w1 g e v.cells → Ext w w1 → w.heap.size ≤ g → wpList P ops Q rest (a.put dst (.slice (some ⟨g, 0, none⟩) 1 1)) w1) : wpList P ops Q (o :: rest) a w := by
 refine Go.Great.wpList_buildSliceTo hg t e 1 #[(0, x)] ho _ rfl dst hdst ht v.cells ?_ (h _ _ (Blk.new w e _) ((Ext.refl w).alloc _) (Nat.le_refl _))
 simp only [List.map_toArray, List.map_cons, List.map_nil, hx]
 exact builtSlice_one v hs hz hv h0 h1
theorem own_keep {w w' : World} {base : Nat} {e : TypeId} {size n : Nat} {v : Value} {xs : List Value} (h : w.ownsRow base e size v n xs) (hb : Ext w w') : w'.ownsRow base e size v n xs := by
 obtain ⟨hl, hh⟩ := h
 refine ⟨hl, ?_⟩
 rcases hh with ⟨rfl, rfl⟩ | ⟨g, cap, cur, rfl, h1, hg, h2⟩
 ·exact .inl ⟨rfl, rfl⟩
 ·exact .inr ⟨g, cap, cur, rfl, h1, (hb.block g (Blk.lt (w := w) (t := e) (cs := cur) hg)).trans hg, h2⟩
theorem own_nil (w : World) (base : Nat) (e : TypeId) (size : Nat) : w.ownsRow base e size (.slice none 0 0) 0 [] := ⟨by simp, .inl ⟨rfl, rfl⟩⟩
theorem ints_one_mem (zs : List Int) : ∀ u ∈ ints zs, u.oneCell' = true := by
 intro u hu
 obtain ⟨z, -, rfl⟩ := List.mem_map.1 hu
 rfl
theorem ints_app (xs ys : List Int) : ints (xs ++ ys) = ints xs ++ ints ys := by simp [ints]
section
variable {P : Program} {ops : Array Oper} {md : Region.Mode} {I : World → Prop}
def Fixed (P : Program) (ops : Array Oper) (I : World → Prop) (o : Oper) (v : Value) (a : Act) : Prop :=
 (Region.wanted o (yielded ops a.tmps) = true ∧ ∀ w, I w → (execOp a.eval o).run P w = .ok (.value v) w) ∨ (Region.wanted o (yielded ops a.tmps) = false ∧ v = undef)
theorem Fixed.of_same {o : Oper} {v : Value} {a a' : Act} (hy : Fixed P ops I o v a) (he : execOp a'.eval o = execOp a.eval o)
 (hw : Region.wanted o (yielded ops a'.tmps) = Region.wanted o (yielded ops a.tmps)) : Fixed P ops I o v a' := by
 unfold Fixed at *
 rw [he, hw]
 exact hy
theorem Fixed.wpOp {i : Nat} {o : Oper} {v : Value} {a : Act} {w : World} {Q : Exit → Act → World → Prop} (hi : ops[i]? = some o) (hy : Fixed P ops I o v a) (hw : I w)
 {K : Act → World → Prop} (h : K (a.put o.dst v) w) : wpOp P ops Q i K a w := by
 unfold Go.wpOp
 simp only [hi]
 rcases hy with ⟨h1, h2⟩ | ⟨h1, rfl⟩
 ·simp only [h1, if_true]
  refine .inl ?_
  unfold Oper.wp
  rw [h2 w hw]
  exact h
 ·simp only [h1, Bool.false_eq_true, if_false]
  exact h
theorem wpOp_putI {j : Nat} {oi oj : Oper} {v : Value} {Q : Exit → Act → World → Prop} (hj : ops[j]? = some oj) (hap : oi.apart ops oj = true)
 (hsi : ∀ cs b, oi.op ≠ .select cs b) (hsj : ∀ cs b, oj.op ≠ .select cs b)
 (hQ : ∀ c a w, Q (.panic c) (a.put oi.dst v) w → Q (.panic c) a w) {K : Act → World → Prop} {a : Act} {w : World}
 (hy : Fixed P ops I oi v a) (h : wpOp P ops Q j K (a.put oi.dst v) w) :
 wpOp P ops Q j (fun a' w' => Fixed P ops I oi v a' ∧ K (a'.put oi.dst v) w') a w := by
 obtain ⟨h1, h2, h3⟩ := Oper.apart_spec hap
 have keep : ∀ (a : Act), Fixed P ops I oi v a → ∀ u, Fixed P ops I oi v (a.put oj.dst u) := fun a hy u =>
  hy.of_same (execOp_put oi hsi a oj.dst u h3) (wanted_put oi a oj.dst u h3)
 have keepD : ∀ d, Fixed P ops I oi v { a with defers := d :: a.defers } := fun d => hy.of_same rfl rfl
 unfold wpOp at *
 simp only [hj] at *
 rw [wanted_put oj a oi.dst v h1] at h
 split
 ·rename_i hw
  simp only [hw, if_true] at h
  rcases h with h | ⟨hasks, hlets⟩
  case inr => exact .inr ⟨by unfold Oper.asks at *; rw [execOp_put oj hsj a oi.dst v h1] at hasks; exact hasks, hlets⟩
  refine .inl ?_
  unfold Oper.wp at *
  rw [execOp_put oj hsj a oi.dst v h1] at h
  generalize (execOp a.eval oj).run P w = r at *
  cases r with
  | ok n w' =>
    cases n <;> simp only [Oper.upon] at h ⊢
    case value u => exact ⟨keep a hy u, by rw [← Act.put_comm a v u h2]; exact h⟩
    case skip => exact ⟨keep a hy _, by rw [← Act.put_comm a v undef h2]; exact h⟩
    case defer d =>
     refine ⟨keep _ (keepD d) _, ?_⟩
     rw [← Act.put_comm _ v undef h2, ← Act.put_defers]
     exact h
    case enter f args =>
     refine Calls.mono h fun e w'' he => ?_
     cases e with
     | returned u => exact ⟨keep a hy u, by rw [← Act.put_comm a v u h2]; exact he⟩
     | panicked c => exact hQ _ _ _ he
     | outgrown => exact he
    case row row args => exact Rows.mono h fun u w'' he => ⟨keep a hy u, by rw [← Act.put_comm a v u h2]; exact he⟩
  | halt x w' =>
    cases x <;> simp only [Oper.upon] at h ⊢
    case panic u => exact hQ _ _ _ h
 ·rename_i hw
  simp only [hw] at h
  exact ⟨keep a hy _, by rw [← Act.put_comm a v undef h2]; exact h⟩
def wpAnyI (P : Program) (md : Region.Mode) (ops : Array Oper) (I : World → Prop) (QN : Act → World → Prop) : Nat → Array Bool → Act → World → Prop
 | 0, listed, a, w => Region.ready md ops listed = [] ∧ QN a w
 | f + 1, listed, a, w => (Region.ready md ops listed = [] → QN a w) ∧
   ∀ i ∈ Region.ready md ops listed, wpOp P ops (onlyN QN) i (fun a' w' => I w' ∧ wpAnyI P md ops I QN f (listed.setIfInBounds i true) a' w') a w
variable {QN : Act → World → Prop}
theorem wpAny_of_I : ∀ (f : Nat) (listed : Array Bool) (a : Act) (w : World), wpAnyI P md ops I QN f listed a w → wpAny P md ops (onlyN QN) f listed a w
 | 0, _, _, _, h => ⟨h.1, h.2⟩
 | f + 1, _, _, _, h => ⟨fun h0 => h.1 h0, fun i hi => wpOp_mono (fun a' w' h' => wpAny_of_I f _ a' w' h'.2) (h.2 i hi)⟩
theorem wpAnyI_first {i : Nat} {oi : Oper} {v : Value} (hi : ops[i]? = some oi) (hsel : ∀ (j : Nat) (o : Oper) cs b, ops[j]? = some o → o.op ≠ .select cs b) :
 ∀ (fuel : Nat) (listed : Array Bool) (a : Act) (w : World),
  (∀ j oj, ops[j]? = some oj → j ≠ i → listed.getD j true = false → (∀ e ∈ oj.after, Region.binds md e = true → e.on ≠ i) → oi.apart ops oj = true) →
  i ∈ Region.ready md ops listed → Fixed P ops I oi v a → I w →
  wpAnyI P md ops I QN fuel (listed.setIfInBounds i true) (a.put oi.dst v) w → wpAnyI P md ops I QN (fuel + 1) listed a w := by
 intro fuel
 induction fuel with
 | zero =>
   intro listed a w _ hr hy hI H
   refine ⟨fun h => (by rw [h] at hr; cases hr), fun j hj => ?_⟩
   by_cases hji : j = i
   ·subst hji; exact hy.wpOp hi hI ⟨hI, H⟩
   ·have := ready_mono hj hji
    rw [H.1] at this
    cases this
 | succ fuel ih =>
   intro listed a w hfree hr hy hI H
   refine ⟨fun h => (by rw [h] at hr; cases hr), fun j hj => ?_⟩
   by_cases hji : j = i
   ·subst hji; exact hy.wpOp hi hI ⟨hI, H⟩
   ·have h1 := H.2 j (ready_mono hj hji)
    obtain ⟨hjun, oj, hoj, hall⟩ := mem_ready.1 hj
    have hnot : ∀ e ∈ oj.after, Region.binds md e = true → e.on ≠ i := fun e he hb heq => by
     have h1 := hall e he hb
     have h0 := (mem_ready.1 hr).1
     rw [heq] at h1
     rcases Nat.lt_or_ge i listed.size with h' | h'
     ·simp [h'] at h0 h1; rw [h0] at h1; cases h1
     ·simp [Array.getElem?_eq_none h'] at h1
    have h2 := wpOp_putI hoj (hfree j oj hoj hji hjun hnot) (fun cs b => hsel i oi cs b hi) (fun cs b => hsel j oj cs b hoj) (fun _ _ _ h => h) hy h1
    have hfree' : ∀ k ok, ops[k]? = some ok → k ≠ i → (listed.setIfInBounds j true).getD k true = false →
     (∀ e ∈ ok.after, Region.binds md e = true → e.on ≠ i) → oi.apart ops ok = true := fun k ok hk hki hun hno => by
     refine hfree k ok hk hki ?_ hno
     by_cases hjk : j = k
     ·subst hjk; exact hjun
     ·rw [getD_set_ne true hjk] at hun; exact hun
    refine wpOp_mono (fun a' w' h3 => ⟨h3.2.1, ih (listed.setIfInBounds j true) a' w' hfree' (ready_mono hr (Ne.symm hji)) h3.1 h3.2.1 ?_⟩) h2
    rw [Array.setIfInBounds_comm _ _ hji]
    exact h3.2.2
theorem wpOp_of_list {i : Nat} {o : Oper} {K : Act → World → Prop} {Q : Exit → Act → World → Prop} {a : Act} {w : World} (ho : ops[i]? = some o) (h : wpList P ops (onlyN K) [o] a w) : wpOp P ops Q i K a w := by
 refine wpOp_exit (QN := K) ?_
 unfold wpOp
 simp only [ho]
 exact h
theorem oi_loud0 {k f : Nat} {o : Oper} {listed : Array Bool} {a : Act} {w : World} (hone : Region.ready md ops listed = [k]) (ho : ops[k]? = some o)
 (h : wpList P ops (onlyN fun a' w' => I w' ∧ wpAnyI P md ops I QN f (listed.setIfInBounds k true) a' w') [o] a w) : wpAnyI P md ops I QN (f + 1) listed a w :=
 ⟨fun h0 => (by rw [h0] at hone; cases hone), fun i hi => by
  rw [hone] at hi
  have hik : i = k := by simpa using hi
  subst hik
  exact wpOp_of_list ho h⟩
theorem oi_two0 {k l f : Nat} {o o2 : Oper} {listed : Array Bool} {a : Act} {w : World} (hone : Region.ready md ops listed = [k, l]) (ho : ops[k]? = some o) (ho2 : ops[l]? = some o2)
 (h : wpList P ops (onlyN fun a' w' => I w' ∧ wpAnyI P md ops I QN f (listed.setIfInBounds k true) a' w') [o] a w)
 (h2 : wpList P ops (onlyN fun a' w' => I w' ∧ wpAnyI P md ops I QN f (listed.setIfInBounds l true) a' w') [o2] a w) : wpAnyI P md ops I QN (f + 1) listed a w :=
 ⟨fun h0 => (by rw [h0] at hone; cases hone), fun i hi => by
  rw [hone] at hi
  have hik : i = k ∨ i = l := by simpa using hi
  rcases hik with rfl | rfl
  ·exact wpOp_of_list ho h
  ·exact wpOp_of_list ho2 h2⟩
theorem oi_fix0 {k f : Nat} {o : Oper} {listed : Array Bool} {a : Act} {w : World} (hB : ((Region.ready md ops listed).contains k && Region.free md ops listed k && Region.noSelect ops) = true) (ho : ops[k]? = some o)
 (hw : Region.wanted o (yielded ops a.tmps) = true) (v : Value) (h1 : ∀ w, I w → (execOp a.eval o).run P w = .ok (.value v) w) (hI : I w)
 (h : wpAnyI P md ops I QN f (listed.setIfInBounds k true) (a.put o.dst v) w) : wpAnyI P md ops I QN (f + 1) listed a w := by
 simp only [Bool.and_eq_true] at hB
 exact wpAnyI_first ho (Region.noSelect_spec hB.2) f listed a w (Region.free_spec ho hB.1.2) (by simpa using hB.1.1) (.inl ⟨hw, h1⟩) hI h
section
variable {l0 : List Oper}
theorem oi_fix {k f : Nat} {o : Oper} {listed : Array Bool} {a : Act} {w : World} (hB : ((Region.ready md l0.toArray listed).contains k && Region.free md l0.toArray listed k && Region.noSelect l0.toArray) = true) (ho : l0[k]? = some o)
 (hw : Region.wanted o (yielded l0.toArray a.tmps) = true) (v : Value) (h1 : ∀ w, I w → (execOp a.eval o).run P w = .ok (.value v) w) (hI : I w)
 (h : wpAnyI P md l0.toArray I QN f (listed.setIfInBounds k true) (a.put o.dst v) w) : wpAnyI P md l0.toArray I QN (f + 1) listed a w := oi_fix0 hB (by simpa using ho) hw v h1 hI h
theorem oi_run {k f : Nat} {o : Oper} {listed : Array Bool} {a : Act} {w : World} (hB : ((Region.ready md l0.toArray listed).contains k && Region.free md l0.toArray listed k && Region.noSelect l0.toArray) = true) (ho : l0[k]? = some o)
 (hw : Region.wanted o (yielded l0.toArray a.tmps) = true) (v : Value) (h1 : ∀ w, (execOp a.eval o).run P w = .ok (.value v) w) (hI : I w)
 (h : wpAnyI P md l0.toArray I QN f (listed.setIfInBounds k true) (a.put o.dst v) w) : wpAnyI P md l0.toArray I QN (f + 1) listed a w := oi_fix hB ho hw v (fun w _ => h1 w) hI h
theorem oi_loud {k f : Nat} {o : Oper} {listed : Array Bool} {a : Act} {w : World} (hone : Region.ready md l0.toArray listed = [k]) (ho : l0[k]? = some o)
 (h : wpList P l0.toArray (onlyN fun a' w' => I w' ∧ wpAnyI P md l0.toArray I QN f (listed.setIfInBounds k true) a' w') [o] a w) : wpAnyI P md l0.toArray I QN (f + 1) listed a w := oi_loud0 hone (by simpa using ho) h
theorem oi_two {k l f : Nat} {o o2 : Oper} {listed : Array Bool} {a : Act} {w : World} (hone : Region.ready md l0.toArray listed = [k, l]) (ho : l0[k]? = some o) (ho2 : l0[l]? = some o2)
 (h : wpList P l0.toArray (onlyN fun a' w' => I w' ∧ wpAnyI P md l0.toArray I QN f (listed.setIfInBounds k true) a' w') [o] a w)
 (h2 : wpList P l0.toArray (onlyN fun a' w' => I w' ∧ wpAnyI P md l0.toArray I QN f (listed.setIfInBounds l true) a' w') [o2] a w) : wpAnyI P md l0.toArray I QN (f + 1) listed a w := oi_two0 hone (by simpa using ho) (by simpa using ho2) h h2
end
theorem wp_region_oi (I : World → Prop) {id : Nat} {a : Act} {w : World} {l : List Oper} {Q : Exit → Act → World → Prop} (hm : P.follows .mixedOrders = true)
 (h : wpAnyI P .any l.toArray I (fun a w => Q .normal a w) l.length (Array.replicate l.length false) a w.drew) : (Code.region id l.toArray true).wp P Q a w := by
 refine Code.wp_mono (Q := onlyN (fun a w => Q .normal a w)) (fun e a w h => ?_) (wp_region_any hm (wpAny_of_I _ _ _ _ (by simpa using h)))
 cases e <;> first | exact h | exact (h : False).elim
theorem oi_done {listed : Array Bool} {a : Act} {w : World} (hone : Region.ready md ops listed = []) (h : QN a w) : wpAnyI P md ops I QN 0 listed a w := ⟨hone, h⟩
end
theorem own_upd2 {S : Nat → Prop} {w w' : World} {base : Nat} {e : TypeId} {size n : Nat} {v : Value} {xs : List Value} (h : w.ownsRow base e size v n xs) (hu : Upd S w w') (hS : ∀ x, v.ownBlock = some x → ¬ S x) : w'.ownsRow base e size v n xs := by
 obtain ⟨hl, hh⟩ := h
 refine ⟨hl, ?_⟩
 rcases hh with ⟨rfl, rfl⟩ | ⟨g, cap, cur, rfl, h1, hg, h2⟩
 ·exact .inl ⟨rfl, rfl⟩
 ·exact .inr ⟨g, cap, cur, rfl, h1, (hu.block g (Blk.lt (w := w) (t := e) (cs := cur) hg) (hS g rfl)).trans hg, h2⟩
theorem upd_grown {w w' : World} {row : Option Nat} (hg : w.grownBy w' row) : Upd (fun b => row = some b) w w' :=
 (Upd.refl (fun b => row = some b) w).grown hg (fun b hb => .inl hb)
section
variable {w0 w w' : World} {B : Nat} {e1 e2 : TypeId} {v1 v2 v1' v2' : Value} {n1 n2 m1 m2 : Nat} {xs1 xs2 ys1 ys2 : List Value} {t1 t2 : Option (Value × Nat)}
theorem oi_end {P : Program} {ops : Array Oper} {K : Act → World → Prop} {a : Act} {w : World} (h : K a w) : wpList P ops (onlyN K) [] a w := h
end
def strV (l : List UInt8) : Value := .string ⟨l.toArray⟩
def strsV (L : List (List UInt8)) : List Value := L.map strV
theorem strsV_one (L : List (List UInt8)) : ∀ u ∈ strsV L, u.oneCell' = true := by
 intro u hu
 obtain ⟨l, -, rfl⟩ := List.mem_map.1 hu
 rfl
theorem elt_strD : Elt Tryz.prog 22 9 1 16 := ⟨Tryz.underlying22, by kernel_rfl, by omega⟩
theorem sizeStr : (Tryz.prog.info? 9).map (·.size) = some 1 := by kernel_rfl
theorem zeroStr : ((Tryz.prog.info? 9).bind (·.zero)).isSome = true := by kernel_rfl
set_option maxHeartbeats 4000000 in
theorem told_any (v : Value) (l : List Int) (hl : l.length ≤ 1000) (hb : ∀ n ∈ l, -900000000000 ≤ n ∧ n ≤ 900000000000) (w : World) (hv : SL w 1 v l.length (ints l))
 (htab : ∀ W, Ext w W → Lib.TabIs Tryz.prog W "internal/strconv.uint64pow10" .u64 Lib.pow10Tab) :
 Calls Tryz.prog 65 #[v] w fun e w' => e = .returned (.string ⟨(if l = [] then [45] else toldZ l).toArray⟩) ∧ Ext w w' := by
 obtain ⟨A, c, rfl, -⟩ := id hv
 by_cases h0 : l = []
 ·subst h0
  rw [if_pos rfl]
  go_enter Tryz.func65, Tryz.ntmps65
  go_wp2_with fail
  go_ret
  exact ⟨rfl, Ext.refl w⟩
 ·obtain ⟨N, hN⟩ : ∃ N, l.length = N := ⟨_, rfl⟩
  have HN := hid_ hN
  have hN0 : 0 < N := by rw [← hN]; exact List.length_pos_iff.2 h0
  have HB := hid_ hb
  have HTAB := hid_ htab
  rw [if_neg h0]
  rw [hN] at hv hl ⊢
  have HV := hid_ hv
  have HZ : Hid (decide ((N : Int) = 0) = false) := hid_ (by simp; omega)
  clear hb hN hv h0 htab
  go_enter Tryz.func65, Tryz.ntmps65
  go_wp2_with ((with_reducible apply gS 8); refine wl_run rfl (.bool false) (ex_eql rfl rfl rfl HZ.out) ?_)
  go_loopw [3, 11] (fun sv iv wr => ∃ (k : Nat) (B : Option Addr) (d : Nat), k ≤ N ∧ iv = .int .i64 (k : Int) ∧ sv = .slice B k d ∧ wr.ownsRow w.heap.size 9 1 (.slice B k d) k (strsV ((l.take k).map Lib.itoa)) ∧ Ext w wr) (fun _ iv _ => N - (intOf iv).toNat)
  case atStart => exact ⟨0, none, 0, by omega, rfl, rfl, own_nil _ _ _ _, Ext.refl w⟩
  case round =>
   obtain ⟨k, B, d, hk, rfl, rfl, hown, hx⟩ := hrel
   by_cases hlt : k < N
   ·obtain ⟨ad, u, hA, hab, hu, hc⟩ := (HV.out.ext hx).at1 hlt
    have hkl : k < l.length := by rw [HN.out]; exact hlt
    have huu : u = .int .i64 l[k] := (ints_at _ _ _ hu).2
    subst huu hA
    have hbk := HB.out l[k] (List.getElem_mem hkl)
    have hts : l.take (k + 1) = l.take k ++ [l[k]] := by rw [List.take_succ_eq_append_getElem hkl]
    have HTS : Hid (strsV ((l.take (k + 1)).map Lib.itoa) = strsV ((l.take k).map Lib.itoa) ++ [strV (Lib.itoa l[k])]) := hid_ (by rw [hts]; unfold strsV; rw [List.map_append, List.map_append]; rfl)
    generalize l[k] = n at *
    have HI := hid_ (fun W hx => Tryz.strconv_Itoa n (by omega) (by omega) W (HTAB.out W hx))
    generalize strsV ((l.take k).map Lib.itoa) = XS at *
    obtain ⟨I, hI⟩ : ∃ I, Lib.itoa n = I := ⟨_, rfl⟩
    rw [hI] at HI HTS
    clear hts hI hbk hkl HB hu
    go_wp2_with (first
     | (go_at_call 8; (with_reducible refine (HI.out _ hx).mono ?_); rintro e' w1 ⟨rfl, k2, os2, hw1⟩; have hxa : Ext wr w1 := hw1 ▸ Lib.below_grow _ wr (Nat.le_refl _) k2 os2; have hown1 := own_keep hown hxa; have hx1 := hx.trans hxa; clear hw1)
     | ((with_reducible apply gS 18); refine wLit1 rfl 22 9 (.tmp 17) rfl (some 18) rfl Tryz.underlying22 1 sizeStr zeroStr _ rfl rfl (by omega) (by omega) ?_; intro w2 gb hbb hx2 hgb; have hown2 := own_keep hown1 hx2; have hx12 := hx1.trans hx2)
     | ((with_reducible apply gS 19); refine wApf elt_strD rfl _ _ rfl w.heap.size _ _ _ rfl hown2 _ 1 [strV I] rfl (hbb.sl (size := 1) (n := 1) (c := 1) rfl (by omega) (by omega)) (strsV_one [I]) (by omega) (by omega) hx12.size ?_; intro B7 d7 w7 hown7 hg7 hrow7))
    have hx7 := (upd_grown hg7).ext hx12 (fun b hb => (hown2.lt b hb).1)
    go_roundw
    case rel => exact ⟨k + 1, B7, d7, by omega, by go_num, rfl, by rw [HTS.out]; exact hown7, hx7⟩
    case measure => simp [intOf]; omega
   ·have ek : k = N := by omega
    subst ek
    have hall : l.take k = l := by rw [← HN.out, List.take_length]
    rw [hall] at hown
    rcases id hown.2 with ⟨-, hk0⟩ | ⟨g, cap, cur, hv2, hg1, hg2, hcap, -⟩
    ·omega
    ·injection hv2 with hv2 hv3 hv4
     subst hv2 hv4
     have hs := (own_out hown).1
     have hxl : ((l.map Lib.itoa).map fun x => (⟨x.toArray⟩ : ByteArray)).length = k := by simp [HN.out]
     have hjj : ((l.map Lib.itoa).map fun x => (⟨x.toArray⟩ : ByteArray)).map (·.data.toList) = l.map Lib.itoa := by
      rw [List.map_map]
      exact (List.map_congr_left fun x _ => rfl).trans (List.map_id _)
     have htl := toldZ_len k l HN.out HB.out
     have HJ := Tryz.strings_Join g 0 d ((l.map Lib.itoa).map fun x => (⟨x.toArray⟩ : ByteArray)) ⟨#[32]⟩ wr (fun j x hj => by
      have hjk : j < k := by rw [← hxl]; exact (List.getElem?_eq_some_iff.1 hj).1
      obtain ⟨ad, u, e1, -, hu, hc⟩ := hs.at1 hjk
      injection e1 with e1
      subst e1
      have : (strsV (l.map Lib.itoa))[j]? = some (.string x) := by
       unfold strsV
       rw [List.getElem?_map] at hj ⊢
       cases h9 : (l.map Lib.itoa)[j]? with
       | none => rw [h9] at hj; cases hj
       | some y => rw [h9] at hj; injection hj with hj; subst hj; rfl
      rw [this] at hu
      injection hu with hu
      subst hu
      rw [addr_add] at hc
      exact hc) (Blk.lt (w := wr) (t := 9) (cs := cur) hg2) (by omega) (by omega) (by
      rw [hjj]
      have e2 : toldZ l = Lib.join (l.map Lib.itoa) [32] := rfl
      show (Lib.join (l.map Lib.itoa) [32]).length ≤ _
      rw [← e2]; omega)
     rw [hjj, hxl] at HJ
     have HJ' := hid_ HJ
     clear HJ hjj hxl hall
     go_wp2_with (go_at_call 94; (with_reducible refine HJ'.out.mono ?_); rintro e' w1 ⟨rfl, hx1⟩)
     go_ret
     exact ⟨rfl, hx.trans hx1⟩
theorem blk_setCells {g : Nat} {t : TypeId} : ∀ (news old a b : List Value) (w : World), old.length = news.length → Blk w g t (a ++ (old ++ b)).toArray → Blk (w.setCells g a.length news) g t (a ++ (news ++ b)).toArray
 | [], old, a, b, w, hl, h => by
   have : old = [] := List.length_eq_zero_iff.1 (by simpa using hl)
   subst this
   exact h
 | v :: news, [], a, b, w, hl, h => by simp at hl
 | v :: news, o :: old, a, b, w, hl, h => by
   have h1 := h.set_ a.length v
   rw [List.setIfInBounds_toArray, List.set_append_right _ _ (Nat.le_refl _), Nat.sub_self, List.cons_append, List.set_cons_zero] at h1
   have h2 : Blk (w.setCell ⟨g, a.length, none⟩ v) g t ((a ++ [v]) ++ (old ++ b)).toArray := by simpa using h1
   have h3 := blk_setCells news old (a ++ [v]) b _ (by simpa using hl) h2
   rw [World.setCells]
   have e : (a ++ [v]).length = a.length + 1 := by simp
   rw [e] at h3
   simpa using h3
theorem upd_setCells {g : Nat} : ∀ (news : List Value) (o : Nat) (w : World), Upd (fun b => b = g) w (w.setCells g o news)
 | [], _, w => Upd.refl _ w
 | v :: news, o, w => by
   rw [World.setCells]
   have h1 := (Upd.refl (fun b => b = g) w).setCell (p := ⟨g, o, none⟩) rfl v
   exact h1.trans (upd_setCells news (o + 1) _) (fun x h => .inl h)
section
variable {P : Program} {ops : Array Oper} {rest : List Oper} {o : Oper} {ac : Act} {w : World} {Q : Exit → Act → World → Prop}
theorem wpList_store_part (hgd : o.guard = none) (ty : TypeId) (x y : Operand) (ho : o.op = .store ty x y) (g off : Nat) (news : List Value) (hx : ac.eval x = .pointer (some ⟨g, off, none⟩)) (hy : ac.eval y = .agg news.toArray)
 {t : TypeId} {a old b : List Value} (hB : Blk w g t (a ++ (old ++ b)).toArray) (ha : a.length = off) (hl : old.length = news.length) (hs : (P.info? ty).map (·.size) = some news.length) (h1 : ∀ v ∈ news, v.oneCell' = true)
 (h : ∀ w1, Blk w1 g t (a ++ (news ++ b)).toArray → Upd (fun b => b = g) w w1 → wpList P ops Q rest (ac.put o.dst undef) w1) : wpList P ops Q (o :: rest) ac w := by
 subst ha
 refine wpList_store_mid hgd ty x y ho g a.length news.toArray hx hy (fun j hj => ⟨?_, hB.frozen _⟩) (by simpa using hs) (all_oneCell_toArray h1) (h _ (blk_setCells news old a b w hl hB) (upd_setCells _ _ _))
 rw [hB.cell]
 have hj : j < news.length := by simpa using hj
 simp only [List.getElem?_toArray]
 rw [List.getElem?_append_right (by omega), List.getElem?_append_left (by omega), List.getElem?_eq_getElem (by omega)]
 rfl
end
end Go.Proofs.YtlhggcbpipmjhaaGreatDoor
