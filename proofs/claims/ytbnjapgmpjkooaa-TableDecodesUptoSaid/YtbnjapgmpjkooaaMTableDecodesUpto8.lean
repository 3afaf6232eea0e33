/- Contracts for the law TableDecodesUpto, part 8: what the functions that it reaches answer, for all arguments that the theorems name. -/
import Derived.Test.YtbnjapgmpjkooaaMTableDecodesUpto7
import Derived.Deep.Cut
import Derived.Deep.Slices
import Derived.Test.YtbnjapgmpjkooaaMTableDecodesUpto4
import Derived.Test.YtbnjapgmpjkooaaMTableDecodesUpto3
import Derived.Great.Walk
import Derived.Test.YtbnjapgmpjkooaaMTableDecodesUpto2
import Derived.Test.YtbnjapgmpjkooaaMTableDecodesUpto5
import Derived.OwnWalk
/- Coder.Get. -/
namespace Go.Proofs.Ytbnjapgmpjkooaa
set_option linter.unusedVariables false
set_option linter.unusedSimpArgs false
open Go.RowKit Go.Maps Go.WideMaps
theorem numB_bit (D : List Bool) (p k : Nat) (h : p + k < D.length) : numB ((D.drop p).take (k + 1)) = 2 * numB ((D.drop p).take k) + numB ((D.drop (p + k)).take 1) := by
  rw [numB_take_succ _ _ (by simp; omega)]
  congr 1
  have e : (D.drop (p + k)).take 1 = [D[p + k]] := by
    rw [List.drop_eq_getElem_cons h]; rfl
  rw [e]
  simp [numB]
theorem zero_intV (w : World) : (zeroValue 3).run Try.prog w = .ok (.int .i64 0) w := by kernel_rfl
set_option maxRecDepth 20000 in
set_option maxHeartbeats 2000000 in
theorem coderGet_any (gc gr : Nat) (T : List Tok) (A : Option Addr) (n c p : Nat) (bs : List Nat) (w0 w : World) (hc : CoderS w0 gc T) (hg : w0.heap.size ≤ gr) (hbw : Below gr w0 w) (hr : RdS w gr A n c p bs) (hgw : gr < w.heap.size) :
    Calls Try.prog 39 #[.pointer (some ⟨gc, 0, none⟩), .pointer (some ⟨gr, 0, none⟩)] w fun e w' =>
      e = .returned (.tuple #[.int .i64 (getGo T (digsOf bs) p 16 1).1, .int .i64 (getGo T (digsOf bs) p 16 1).2.2]) ∧ ((getGo T (digsOf bs) p 16 1).2.2 = 0 → RdS w' gr A n c (getGo T (digsOf bs) p 16 1).2.1 bs) ∧ Upd (fun x => x = gr) w w' := by
  have HD : Hid ((digsOf bs).length = 8 * n) := hid_ (by rw [digsOf_len, hr.2.2.1])
  have HNB := hid_ (numB_bit (digsOf bs) p)
  have HLT := hid_ (fun i (h1 : i ≤ 24) => numB_take_lt ((digsOf bs).drop p) i 24 h1)
  have HL1 := hid_ (fun q => numB_take_lt ((digsOf bs).drop q) 1 1 (by omega))
  have HG0 : Hid (∀ long, getGo T (digsOf bs) p 0 long = (0, p, 4)) := hid_ (fun long => getGo_end)
  have HGO : Hid (∀ f long, ¬ p + long ≤ 8 * n → getGo T (digsOf bs) p (f + 1) long = (0, p, 3)) := hid_ (fun f long h => getGo_out (by rw [HD.out]; exact h))
  have HGY : Hid (∀ f long t, p + long ≤ 8 * n → T.find? (hasCode (long : Int) (numB (((digsOf bs).drop p).take long) : Nat)) = some t → getGo T (digsOf bs) p (f + 1) long = (t.1, p + long, 0)) := hid_ (fun f long t h hf => getGo_yes (by rw [HD.out]; exact h) hf)
  have HGN : Hid (∀ f long, p + long ≤ 8 * n → T.find? (hasCode (long : Int) (numB (((digsOf bs).drop p).take long) : Nat)) = none → getGo T (digsOf bs) p (f + 1) long = getGo T (digsOf bs) p f (long + 1)) := hid_ (fun f long h hf => getGo_no (by rw [HD.out]; exact h) hf)
  obtain ⟨ez, hez⟩ : ∃ ez, ez = getGo T (digsOf bs) p 16 1 := ⟨_, rfl⟩
  have HEZ := hid_ hez
  rw [← hez]
  clear hez
  have hp0 : p ≤ 8 * n := hr.2.2.2.2.2.2
  go_enter Try.func39, Try.ntmps39
  go_wp2_with fail
  go_loopw [6, 7] (fun v i wr => ∃ k : Nat, k ≤ 16 ∧ i = .int .i64 ((k + 1 : Nat) : Int) ∧ v = .int .i64 ((numB (((digsOf bs).drop p).take k) : Nat) : Int) ∧ Hid (ez = getGo T (digsOf bs) p (16 - k) (k + 1)) ∧ RdS wr gr A n c (p + k) bs ∧ Upd (fun x => x = gr) w wr) (fun _ i _ => 17 - (intOf i).toNat)
  case atStart => exact ⟨0, by omega, rfl, by simp [numB], HEZ, hr, Upd.refl _ _⟩
  case round =>
    clear HEZ hr
    obtain ⟨k, hk, rfl, rfl, HEZ, hr, hu⟩ := hrel
    have hpk : p + k ≤ 8 * n := hr.2.2.2.2.2.2
    by_cases hlt : k < 16
    · have HEK : Hid (ez = getGo T (digsOf bs) p (15 - k + 1) (k + 1)) := hid_ (by rw [HEZ.out, show 15 - k + 1 = 16 - k by omega])
      clear HEZ
      by_cases hfit : p + k + 1 ≤ 8 * n
      · have HYES := hid_ (fun t h => HEK.out.trans (HGY.out (15 - k) (k + 1) t (by omega) h))
        have HNO := hid_ (fun h => HEK.out.trans (HGN.out (15 - k) (k + 1) (by omega) h))
        have hcw := hc.below hg (hbw.trans (hu.below (fun x hx => by omega) (by omega)))
        have HG : Hid (∀ W, RdS W gr A n c (p + k) bs → Calls Try.prog 35 #[.pointer (some ⟨gr, 0, none⟩), .int .i64 1] W fun e w' => e = .returned (.tuple #[.int .i64 ((numB (((digsOf bs).drop (p + k)).take 1) : Nat) : Int), .bool true]) ∧ RdS w' gr A n c (p + k + 1) bs ∧ Upd (fun x => x = gr) W w') := hid_ (fun W h => get_yes gr A n c (p + k) bs 1 W h hfit (by omega))
        have HM2 := hid_ (HNB.out k (by rw [HD.out]; omega))
        have hm0 := HLT.out k (by omega)
        have hm20 := HLT.out (k + 1) (by omega)
        have hb0 := HL1.out (p + k)
        generalize numB (((digsOf bs).drop (p + k)).take 1) = b at *
        generalize numB (((digsOf bs).drop p).take k) = m at *
        generalize hm2 : numB (((digsOf bs).drop p).take (k + 1)) = m2 at *
        have HMM := hid_ hm2
        clear hm2
        have hb2 : b < 2 := by omega
        have hm : m < 1099511627776 := by omega
        have hk64 : IntKind.i64.wrap (((k + 1 : Nat) : Int) + 1) = ((k + 1 + 1 : Nat) : Int) := by rw [IntWalk.i64_in _ (by omega)]; omega
        go_upto_region 8 with (go_at_call 35; (with_reducible refine (HG.out _ hr).mono ?_); rintro e w5 ⟨rfl, hr5, hu5⟩)
        refine wp_region_lit ?_
        refine wl_run rfl (.int .i64 ((m : Nat) : Int)) (ex_move rfl rfl) ?_
        simp only [Act.put, List.setIfInBounds_toArray, List.set_cons_succ, List.set_cons_zero]
        refine wl_run rfl (.int .i64 ((2 * m : Nat) : Int)) (ex_binK (k := .i64) (m := (m : Int)) (k' := .u64) (n := 1) rfl rfl rfl (run_shl_one m hm)) ?_
        simp only [Act.put, List.setIfInBounds_toArray, List.set_cons_succ, List.set_cons_zero]
        refine wl_run rfl (.int .i64 ((b : Nat) : Int)) (ex_move rfl rfl) ?_
        simp only [Act.put, List.setIfInBounds_toArray, List.set_cons_succ, List.set_cons_zero]
        refine wl_run rfl (.int .i64 ((m2 : Nat) : Int)) (by rw [HM2.out]; exact ex_binK (k := .i64) (m := ((2 * m : Nat) : Int)) (k' := .i64) (n := ((b : Nat) : Int)) rfl rfl rfl (run_or2 m b hm hb2)) ?_
        simp only [Act.put, List.setIfInBounds_toArray, List.set_cons_succ, List.set_cons_zero]
        refine wl_run rfl (.int .i64 ((m2 : Nat) : Int)) (ex_assign rfl rfl) ?_
        simp only [Act.put, List.setIfInBounds_toArray, List.set_cons_succ, List.set_cons_zero]
        have hcw5 : CoderS w5 gc T := hc.below hg (hbw.trans ((hu.trans hu5 (fun x hx => .inl hx)).below (fun x hx => by omega) (by omega)))
        have hu15 := hu.trans hu5 (fun x hx => .inl hx)
        obtain ⟨m1, mp, mn, hB, hm1, hmp⟩ := hcw5
        have c1 := hB.cell 1
        simp only [List.getElem?_toArray, List.getElem?_cons_zero, List.getElem?_cons_succ] at c1
        have hok : okP (((k + 1 : Nat) : Int), (m2 : Int)) := ⟨by simp only; omega, by simp only; omega⟩
        have HKEY := hid_ (keyOf_P _ hok)
        have HCF := hid_ (codeF_hasCode T ((k + 1 : Nat) : Int) (m2 : Int))
        cases hf : T.find? (hasCode ((k + 1 : Nat) : Int) (m2 : Int)) with
        | some t =>
          rw [hf] at HCF
          simp only [Option.map_some] at HCF
          have HZ2 := hid_ (HYES.out t hf)
          clear hf HYES HNO
          go_wp2_with (at_lookup; refine wpList_look_ok_g (by rfl) _ _ 109 3 rfl keyed_pair Try.underlying109 _ (zero_intV _) rfl hmp _ rfl (((k + 1 : Nat) : Int), (m2 : Int)) hok HKEY.out (.int .i64 t.1) (by rw [HCF.out]; rfl) true (by rw [HCF.out]; rfl) ?_)
          go_ret2
          rw [HZ2.out]
          exact ⟨rfl, fun _ => hr5, hu15⟩
        | none =>
          rw [hf] at HCF
          simp only [Option.map_none] at HCF
          have HZ2 := hid_ (HNO.out hf)
          clear hf HYES HNO
          go_wp2_with (at_lookup; refine wpList_look_ok_g (by rfl) _ _ 109 3 rfl keyed_pair Try.underlying109 _ (zero_intV _) rfl hmp _ rfl (((k + 1 : Nat) : Int), (m2 : Int)) hok HKEY.out (.int .i64 0) (by rw [HCF.out]; rfl) false (by rw [HCF.out]; rfl) ?_)
          go_roundw
          case rel => exact ⟨k + 1, by omega, by go_num, by rw [HMM.out], hid_ (by rw [HZ2.out, show 15 - k = 16 - (k + 1) by omega]), hr5, hu15⟩
          case measure => simp [intOf]; omega
      · have HZ2 : Hid (ez = (0, p, 3)) := hid_ (HEK.out.trans (HGO.out (15 - k) (k + 1) (by omega)))
        have HG : Hid (∀ W, RdS W gr A n c (p + k) bs → Calls Try.prog 35 #[.pointer (some ⟨gr, 0, none⟩), .int .i64 1] W fun e w' => e = .returned (.tuple #[.int .i64 0, .bool false]) ∧ Ext W w') := hid_ (fun W h => get_no gr A n c (p + k) bs 1 W h (by omega) (by omega))
        go_wp2_with (go_at_call 35; (with_reducible refine (HG.out _ hr).mono ?_); rintro e w5 ⟨rfl, hx5⟩)
        go_ret2
        rw [HZ2.out]
        exact ⟨rfl, fun h => by simp at h, hu.trans (Upd.of_ext (S := fun x => x = gr) hx5) (fun x hx => .inl hx)⟩
    · have ek : k = 16 := by omega
      subst ek
      rw [HG0.out] at HEZ
      go_wp2_with fail
      go_ret2
      rw [HEZ.out]
      exact ⟨rfl, fun h => by simp at h, hu⟩
end Go.Proofs.Ytbnjapgmpjkooaa
/- Opening a parameter that is a slice of elements of several integers each (blocks, tokens, fields). -/
namespace Go.Proofs.Ytbnjapgmpjkooaa
set_option linter.unusedVariables false
set_option linter.unusedSimpArgs false
open Go.RowKit Go.ChangeShapes Go.WideShapes Go.ChangeAt
theorem flat_at {α : Type} (f : Nat → List α) (sz : Nat) : ∀ n : Nat, (∀ i, i < n → (f i).length = sz) → ((List.range n).flatMap f).length = n * sz ∧ ∀ i j, i < n → j < sz → ((List.range n).flatMap f)[i * sz + j]? = (f i)[j]?
  | 0, _ => ⟨by simp, fun i j h => by omega⟩
  | n + 1, h => by
    obtain ⟨h1, h2⟩ := flat_at f sz n (fun i hi => h i (by omega))
    have hl := h n (by omega)
    rw [List.range_succ, List.flatMap_append]
    refine ⟨by simp only [List.length_append, h1, List.flatMap_cons, List.flatMap_nil, List.append_nil, hl]; rw [Nat.add_mul]; omega, fun i j hi hj => ?_⟩
    rcases Nat.lt_or_ge i n with hlt | hge
    · have : i * sz + j < n * sz := by
        have := Nat.mul_le_mul_right sz (show i + 1 ≤ n by omega)
        rw [Nat.add_mul] at this
        omega
      rw [List.getElem?_append_left (by omega)]
      exact h2 i j hlt hj
    · obtain rfl : i = n := by omega
      rw [List.getElem?_append_right (by omega), h1, show i * sz + j - i * sz = j by omega]
      simp
section
variable {H : Type} {enc : TypeId × Value → H} {P : Program} {w : World} {base : Nat} {spare : Nat → Bool} {held : Bool}
theorem open_multi {t e : TypeId} {sz fuel : Nat} {cs : List Value} {x : DataW H × List MemPlace} (ht : P.underlying t = some (.slice e)) (hsz : P.cellsOf e = sz) (h0 : 0 < sz)
    (hel : ∀ (fuel : Nat) (cs : List Value) (x : DataW H × List MemPlace), DataW.trod enc P w base spare held fuel e cs = some x → ∃ zs : List Int, zs.length = sz ∧ cs = ints zs ∧ ∀ z ∈ zs, inI64 z)
    (h : DataW.trod enc P w base spare held fuel t cs = some x) : ∃ (v : Value) (n : Nat) (zs : List Int), cs = [v] ∧ zs.length = n * sz ∧ SL w sz v n (ints zs) ∧ ∀ z ∈ zs, inI64 z := by
  rcases Go.Deep.open_slice ht h with ⟨rfl, -⟩ | ⟨a, len, cap, m, n, D, Pl, rfl, -, hl, hm, hmm, -, hx⟩
  · exact ⟨_, 0, [], rfl, by simp, SL.nil w sz, by simp⟩
  · rw [hsz] at hx
    have hle : len ≤ m := by rw [hmm]; split <;> omega
    obtain ⟨f, hf⟩ := Go.Deep.choose_lt (α := List Int) (n := len) (p := fun i zs => zs.length = sz ∧ w.cells? base (a.add (i * sz)) sz = some (ints zs) ∧ ∀ z ∈ zs, inI64 z) (fun i hi => by
      obtain ⟨cs', h1, h2⟩ := hx i (by omega)
      obtain ⟨zs, hz1, rfl, hz3⟩ := hel _ _ _ h2
      exact ⟨zs, hz1, h1, hz3⟩)
    obtain ⟨hfl, hfa⟩ := flat_at f sz len (fun i hi => (hf i hi).1)
    have hcell : ∀ i j u, i < len → (ints (f i))[j]? = some u → w.cell? (a.add (i * sz + j)) = some u := by
      intro i j u hi hu
      obtain ⟨_, _, hc⟩ := World.cells?_some (hf i hi).2.1
      rw [← hu, ← add_of_add]
      exact hc j (by have := (List.getElem?_eq_some_iff.1 hu).1; omega)
    refine ⟨_, len, (List.range len).flatMap f, rfl, hfl, ⟨some a, cap, rfl, hl, by unfold maxLen at hm; omega, by rw [ints_len, hfl], fun hn => ⟨a, rfl, ?_, fun j u hu => ?_⟩⟩, ?_⟩
    · have hq : 0 < (ints (f 0)).length := by rw [ints_len, (hf 0 hn).1]; exact h0
      have := hcell 0 0 _ hn (List.getElem?_eq_getElem hq)
      have h2 := World.block_lt_of_cell? w _ this
      rwa [block_of_add] at h2
    · have hj : j < len * sz := by have := (List.getElem?_eq_some_iff.1 hu).1; rw [ints_len, hfl] at this; exact this
      have hi : j / sz < len := Nat.div_lt_of_lt_mul (by rwa [Nat.mul_comm])
      have hr : j % sz < sz := Nat.mod_lt _ h0
      have e : j / sz * sz + j % sz = j := by rw [Nat.mul_comm]; exact Nat.div_add_mod _ _
      have h3 := hfa (j / sz) (j % sz) hi hr
      rw [e] at h3
      have h4 : (ints (f (j / sz)))[j % sz]? = some u := by
        rw [← hu]
        unfold ints
        rw [List.getElem?_map, List.getElem?_map, h3]
      have := hcell (j / sz) (j % sz) u hi h4
      rwa [e] at this
    · intro z hz
      obtain ⟨i, hi, hzi⟩ := List.mem_flatMap.1 hz
      exact (hf i (List.mem_range.1 hi)).2.2 z hzi
end
section
variable {H : Type} {enc : TypeId × Value → H} {w : World} {base : Nat} {spare : Nat → Bool} {held : Bool}
end
end Go.Proofs.Ytbnjapgmpjkooaa
/- Fields of bits (width, value): flat lists, what they answer; bits.isWidth. -/
namespace Go.Proofs.Ytbnjapgmpjkooaa
set_option linter.unusedVariables false
set_option linter.unusedSimpArgs false
open Go.RowKit
def flatF (F : List (Int × Int)) : List Int := F.flatMap fun f => [f.1, f.2]
theorem unflatF : ∀ (n : Nat) (zs : List Int), zs.length = n * 2 → ∃ F : List (Int × Int), F.length = n ∧ zs = flatF F
  | 0, zs, h => ⟨[], rfl, by simpa [flatF] using h⟩
  | n + 1, [], h => by simp at h
  | n + 1, [a], h => by simp at h; omega
  | n + 1, a :: b :: r, h => by
    obtain ⟨F, h1, rfl⟩ := unflatF n r (by simp at h; omega)
    exact ⟨(a, b) :: F, by simp [h1], by simp [flatF]⟩
theorem flatF_part : ∀ (F : List (Int × Int)) (k : Nat) (h : k < F.length), ((ints (flatF F)).drop (k * 2)).take 2 = ints [F[k].1, F[k].2]
  | f :: F, 0, _ => by simp [flatF, ints]
  | f :: F, k + 1, h => by
    have := flatF_part F k (by simpa using h)
    rw [show (k + 1) * 2 = k * 2 + 1 + 1 by omega]
    simpa [flatF, ints] using this
  | [], k, h => by simp at h
theorem flatF_mem {F : List (Int × Int)} {f : Int × Int} (h : f ∈ F) : f.1 ∈ flatF F ∧ f.2 ∈ flatF F := by
  constructor <;> exact List.mem_flatMap.2 ⟨f, h, by simp⟩
def okF (f : Int × Int) : Bool := inB f.1 0 24 && inB f.2 0 (2 ^ f.1.toNat - 1)
def bitsF (F : List (Int × Int)) : List Bool := F.flatMap fun f => digs f.2.toNat f.1.toNat
theorem bitsF_succ (F : List (Int × Int)) (k : Nat) (h : k < F.length) : bitsF (F.take (k + 1)) = bitsF (F.take k) ++ digs F[k].2.toNat F[k].1.toNat := by
  unfold bitsF
  rw [List.take_succ_eq_append_getElem h, List.flatMap_append]
  simp
theorem bitsF_len (F : List (Int × Int)) (h : ∀ f ∈ F, okF f = true) : (bitsF F).length ≤ 24 * F.length := by
  induction F with
  | nil => simp [bitsF]
  | cons f l ih =>
    have h1 := ih (fun g hg => h g (by simp [hg]))
    have h2 := h f (by simp)
    unfold okF at h2
    rw [Bool.and_eq_true, inB_iff] at h2
    simp only [bitsF, List.flatMap_cons, List.length_append, List.length_cons, digs_len] at h1 ⊢
    omega
/-- what Write answers -/
def bwZ (F : List (Int × Int)) : List Nat × Int := if F.length ≤ 20000 then (if F.all okF then (packB (padB (bitsF F)), 0) else ([], 1)) else ([], 2)
theorem bwZ_long {F : List (Int × Int)} (h : ¬ F.length ≤ 20000) : bwZ F = ([], 2) := by unfold bwZ; rw [if_neg h]
theorem bwZ_bad {F : List (Int × Int)} (h : F.length ≤ 20000) {k : Nat} (hk : k < F.length) (hb : okF F[k] = false) : bwZ F = ([], 1) := by
  have : F.all okF = false := by
    rw [← Bool.not_eq_true]
    intro h2
    have := List.all_eq_true.1 h2 _ (List.getElem_mem hk)
    rw [hb] at this
    cases this
  unfold bwZ
  rw [if_pos h, this]; rfl
theorem bwZ_good {F : List (Int × Int)} (h : F.length ≤ 20000) (hb : ∀ f ∈ F, okF f = true) : bwZ F = (packB (padB (bitsF F)), 0) := by
  unfold bwZ
  rw [if_pos h, List.all_eq_true.2 hb]; rfl
theorem okF_w {a b : Int} (h : inB a 0 24 = false) : okF (a, b) = false := by simp [okF, h]
theorem okF_v {a b : Int} (h : inB b 0 (2 ^ a.toNat - 1) = false) : okF (a, b) = false := by simp [okF, h]
theorem okF_y {a b : Int} (h1 : inB a 0 24 = true) (h2 : inB b 0 (2 ^ a.toNat - 1) = true) : okF (a, b) = true := by simp [okF, h1, h2]
theorem sizeField : (Try.prog.info? 28).map (·.size) = some 2 := by kernel_rfl
theorem zeroField : (Try.prog.info? 28).bind (·.zero) = some (.agg #[.int .i64 0, .int .i64 0]) := by kernel_rfl
theorem cellsField : Try.prog.cellsOf 28 = 2 := by kernel_rfl
theorem fieldSL {w : World} {g : Nat} {t : TypeId} {x y : Int} (h : Blk w g t #[.int .i64 x, .int .i64 y]) : SL w 2 (.slice (some ⟨g, 0, none⟩) 1 1) 1 (ints [x, y]) :=
  ⟨_, _, rfl, by omega, by omega, by simp [ints], fun _ => ⟨_, rfl, h.lt, fun j u hu => by
    have := h.cell j
    rw [addr_add]
    simp only [Nat.zero_add]
    rw [this, ← hu]
    simp [ints]⟩⟩
section
open Go.ChangeShapes Go.WideShapes Go.ChangeAt
variable {H : Type} {enc : TypeId × Value → H} {w : World} {base : Nat} {spare : Nat → Bool} {held : Bool}
theorem trod_struct2 {P : Program} {t : TypeId} {f0 f1 : Field} {fuel : Nat} {cs : List Value} {x : DataW H × List MemPlace} (ht : P.underlying t = some (.struct #[f0, f1])) (h : DataW.trod enc P w base spare held fuel t cs = some x) :
    ∃ y0 y1 n, cs.length = P.cellsOf t ∧ DataW.trod enc P w base spare held n f0.type ((cs.drop f0.offset).take (P.cellsOf f0.type)) = some y0 ∧
      DataW.trod enc P w base spare held n f1.type ((cs.drop f1.offset).take (P.cellsOf f1.type)) = some y1 := by
  obtain ⟨xs, n, _, rfl, hl, hlen, hf⟩ := DataW.trod_struct ht h
  match xs, hlen with
  | [y0, y1], _ => exact ⟨y0, y1, n, hl, by simpa using hf 0 f0 rfl, by simpa using hf 1 f1 rfl⟩
theorem trod_field {fuel : Nat} {cs : List Value} {x : DataW H × List MemPlace} (h : DataW.trod enc Try.prog w base spare held fuel 28 cs = some x) : ∃ zs : List Int, zs.length = 2 ∧ cs = ints zs ∧ ∀ z ∈ zs, inI64 z := by
  obtain ⟨y0, y1, n, hl, h0, h1⟩ := trod_struct2 Try.underlying28 h
  rw [cellsField] at hl
  dsimp only at h0 h1
  rw [cellsInt] at h0 h1
  obtain ⟨a, e0, ha2⟩ := trod_int_cell Try.underlying3 h0
  obtain ⟨b, e1, hb2⟩ := trod_int_cell Try.underlying3 h1
  clear h h0 h1
  match cs, hl with
  | [u, v], _ =>
    simp at e0 e1
    subst e0 e1
    exact ⟨[a, b], rfl, rfl, by simp [ha2, hb2]⟩
set_option maxRecDepth 20000 in
theorem open_fields_v {b0 : Nat} {r : Reach} {v : Value} {d : DataW H} {p : List MemPlace} (hv : Value.okWide Try.prog w r b0 22 v) (h : DataW.Trod enc Try.prog w base spare held 22 v d p) :
    ∃ zs : List Int, (SL w 2 v (zs.length / 2) (ints zs) ∧ zs.length = zs.length / 2 * 2) ∧ ∀ z ∈ zs, inI64 z := by
  obtain ⟨fuel, hf⟩ := h
  obtain ⟨u, n, zs, hcs, hl, hs, hz⟩ := open_multi (sz := 2) Try.underlying22 cellsField (by decide) (fun fuel cs x hx => trod_field hx) hf
  have : v = u := slice_value Try.underlying22 hv hcs (by obtain ⟨A, c, rfl, -⟩ := hs; simp)
  subst this
  refine ⟨zs, ⟨?_, by omega⟩, hz⟩
  rwa [show zs.length / 2 = n by omega]
end
theorem isWidth_any (n : Int) (w : World) : Calls Try.prog 25 #[.int .i64 n] w fun e w' => e = .returned (.bool (inB n 0 24)) ∧ w = w' := by
  by_cases h : 0 ≤ n
  · have h' : decide (0 ≤ n) = true := by simpa using h
    have e : inB n 0 24 = decide (n ≤ 24) := by rw [Bool.eq_iff_iff, inB_iff]; simp; omega
    rw [e]; clear e
    go_enter Try.func25, Try.ntmps25
    go_wp2
    go_ret
    exact ⟨rfl, rfl⟩
  · have h' : decide (0 ≤ n) = false := by simpa using h
    have e : inB n 0 24 = false := by rw [inB_not]; omega
    rw [e]; clear e
    go_enter Try.func25, Try.ntmps25
    go_wp2
    go_ret
    exact ⟨rfl, rfl⟩
theorem run_shl1 (a : Nat) (h : a ≤ 24) (W : World) : (binOp .shl 3 (.int .i64 1) (.int .i64 (a : Int))).run Try.prog W = .ok (.int .i64 (2 ^ a)) W := by
  have h1 : (2 : Int) ^ a ≤ 2 ^ 24 := by have := Nat.pow_le_pow_right (n := 2) (by omega) h; exact_mod_cast this
  have h2 : (0 : Int) ≤ 2 ^ a := by exact_mod_cast Nat.zero_le (2 ^ a)
  have h3 : (2 : Int) ^ 24 = 16777216 := by decide
  rw [h3] at h1
  have e : IntKind.i64.wrap (2 ^ a) = 2 ^ a := IntWalk.i64_in _ (by omega)
  have e2 : ¬ ((a : Int) < 0) := by omega
  simp [binOp, e, e2]
end Go.Proofs.Ytbnjapgmpjkooaa
/- A slice literal of one element of many cells: append(out, b). -/
namespace Go.Proofs.Ytbnjapgmpjkooaa
set_option linter.unusedVariables false
set_option linter.unusedSimpArgs false
open Go.RowKit
theorem fold_set (l : List Value) : ∀ (k : Nat) (a : Array Value), a.size = k + l.length → (l.zipIdx k).foldl (fun cs (p : Value × Nat) => cs.setIfInBounds (0 + p.2) p.1) a = (a.toList.take k ++ l).toArray := by
  induction l with
  | nil =>
    intro k a h
    simp at h
    apply Array.ext'
    simp [List.take_of_length_le, h]
  | cons v l ih =>
    intro k a h
    rw [List.zipIdx_cons, List.foldl_cons, ih (k + 1) _ (by simp at h ⊢; omega)]
    apply Array.ext'
    simp only [Nat.zero_add, Array.toList_setIfInBounds]
    have hk : k < a.toList.length := by simp at h ⊢; omega
    rw [List.take_add_one, List.take_set_of_le (by omega), List.getElem?_set_self hk]
    simp
theorem fill_one (v : Value) (n : Nat) (a : Array Value) (hv : v.cells.size = n) (ha : a.size = n) : Instr.fill (fun i => some (i * n, n)) a [(0, v)] = some v.cells := by
  have e : v.cells.zipIdx.foldl (fun cs (p : Value × Nat) => cs.setIfInBounds (0 + p.2) p.1) a = v.cells := by
    have h := fold_set v.cells.toList 0 a (by simp; omega)
    rw [← Array.foldl_toList]
    simpa using h
  simp only [Nat.zero_add] at e
  have e2 : Array.foldl (fun cs (x : Value × Nat) => cs.setIfInBounds x.2 x.1) a v.cells.zipIdx 0 n = v.cells := by
    have hn : n = v.cells.zipIdx.size := by simp [hv]
    rw [hn]
    exact e
  simp [Instr.fill, hv, ha, e2]
theorem builtSlice_one {P : Program} {e : TypeId} {n : Nat} (v : Value) (hs : (P.info? e).map (·.size) = some n) (hz : ((P.info? e).bind (·.zero)).isSome = true) (hv : v.cells.size = n) (h0 : 0 < n) (h1 : n ≤ 16777216) : P.builtSlice e 1 [(0, v)] = some v.cells := by
  unfold Program.builtSlice
  cases hq : P.info? e with
  | none => simp [hq] at hs
  | some i =>
    have hi : i.size = n := by simpa [hq] using hs
    cases hzz : i.zero with
    | none => simp [hq, hzz] at hz
    | some z =>
      simp only [hi, hzz, Nat.one_mul]
      rw [if_neg (by omega)]
      exact fill_one v n _ hv (by simp)
theorem wpList_lit1 {P : Program} {ops : Array Oper} {rest : List Oper} {o : Oper} {a : Act} {w : World} {Q : Exit → Act → World → Prop} (hg : o.guard = none) (t e : TypeId) (x : Operand) (ho : o.op = .buildSlice t 1 #[(0, x)]) (dst : Option Tmp) (hdst : o.dst = dst)
    (ht : P.underlying t = some (.slice e)) (n : Nat) (hs : (P.info? e).map (·.size) = some n) (hz : ((P.info? e).bind (·.zero)).isSome = true) (v : Value) (hx : a.eval x = v) (hv : v.cells.size = n) (h0 : 0 < n) (h1 : n ≤ 16777216)
    (h : ∀ w1 g, Blk w1 g e v.cells → Ext w w1 → w.heap.size ≤ g → wpList P ops Q rest (a.put dst (.slice (some ⟨g, 0, none⟩) 1 1)) w1) : wpList P ops Q (o :: rest) a w := by
  refine Go.Great.wpList_buildSliceTo hg t e 1 #[(0, x)] ho _ rfl dst hdst ht v.cells ?_ (h _ _ (Blk.new w e _) ((Ext.refl w).alloc _) (Nat.le_refl _))
  simp only [List.map_toArray, List.map_cons, List.map_nil, hx]
  exact builtSlice_one v hs hz hv h0 h1
theorem own_keep {w w' : World} {base : Nat} {e : TypeId} {size n : Nat} {v : Value} {xs : List Value} (h : w.ownsRow base e size v n xs) (hb : Ext w w') : w'.ownsRow base e size v n xs := by
  obtain ⟨hl, hh⟩ := h
  refine ⟨hl, ?_⟩
  rcases hh with ⟨rfl, rfl⟩ | ⟨g, cap, cur, rfl, h1, hg, h2⟩
  · exact .inl ⟨rfl, rfl⟩
  · exact .inr ⟨g, cap, cur, rfl, h1, (hb.block g (Blk.lt (w := w) (t := e) (cs := cur) hg)).trans hg, h2⟩
theorem own_nil (w : World) (base : Nat) (e : TypeId) (size : Nat) : w.ownsRow base e size (.slice none 0 0) 0 [] := ⟨by simp, .inl ⟨rfl, rfl⟩⟩
theorem ints_one_mem (zs : List Int) : ∀ u ∈ ints zs, u.oneCell' = true := by
  intro u hu
  obtain ⟨z, -, rfl⟩ := List.mem_map.1 hu
  rfl
theorem ints_app (xs ys : List Int) : ints (xs ++ ys) = ints xs ++ ints ys := by simp [ints]
end Go.Proofs.Ytbnjapgmpjkooaa
/- bits.Read. -/
namespace Go.Proofs.Ytbnjapgmpjkooaa
set_option linter.unusedVariables false
set_option linter.unusedSimpArgs false
open Go.RowKit
theorem elt_intR : Elt Try.prog 31 3 1 8 := ⟨Try.underlying31, by kernel_rfl, by omega⟩
/-- what Read hands back -/
def RdIs (z : List Int × Int × Int) (w : World) (e : Ending) (w' : World) : Prop :=
  ∃ A c, e = .returned (.tuple #[.slice A z.1.length c, .int .i64 z.2.1, .int .i64 z.2.2]) ∧ SL w' 1 (.slice A z.1.length c) z.1.length (ints z.1) ∧ Ext w w'
theorem RdIs.err {w w' : World} {x y : Int} {z : List Int × Int × Int} (h : z = ([], x, y)) (hx : Ext w w') : RdIs z w (.returned (.tuple #[.slice none 0 0, .int .i64 x, .int .i64 y])) w' := by
  subst h
  exact ⟨none, 0, rfl, SL.nil _ _, hx⟩
set_option maxRecDepth 20000 in
set_option maxHeartbeats 2000000 in
theorem read_any (bs : List Nat) (ws : List Int) (bv wv : Value) (w : World) (hb : SL w 1 bv bs.length (bytesV bs)) (hlt : ∀ b ∈ bs, b < 256) (hn : bs.length ≤ 100000000000) (hw : SL w 1 wv ws.length (ints ws)) :
    Calls Try.prog 11 #[bv, wv] w (RdIs (rdZ (digsOf bs) ws) w) := by
  have hw' := hw
  obtain ⟨B, d, rfl, hd1, hd2, -, -⟩ := hw'
  by_cases hl : ws.length ≤ 20000
  case neg =>
    have HE : Hid (rdZ (digsOf bs) ws = ([], 0, 2)) := hid_ (by unfold rdZ; rw [if_neg hl])
    generalize rdZ (digsOf bs) ws = ez at *
    generalize ws.length = n at *
    clear hb hn hw
    go_enter Try.func11, Try.ntmps11
    go_wp2_with fail
    go_ret3
    exact RdIs.err HE.out (Ext.refl _)
  have HE : Hid (rdZ (digsOf bs) ws = rdGo (digsOf bs) ws 0 []) := hid_ (by unfold rdZ; rw [if_pos hl])
  have hb' := hb
  obtain ⟨A, c, rfl, -, -, -, -⟩ := hb'
  have HN := hid_ (fun W h => newReader_any A bs.length c bs W h rfl hlt hn)
  have HD := hid_ (digsOf_len bs)
  generalize hez : rdZ (digsOf bs) ws = ez at *
  clear hez hlt
  have HNL : Hid (bs.length = bs.length) := hid_ rfl
  obtain ⟨n, hnn⟩ : ∃ n, n = bs.length := ⟨_, rfl⟩
  rw [← hnn] at hb hn HN HD
  have HBL : Hid (bs.length = n) := hid_ hnn.symm
  rw [← hnn]
  clear HNL hnn
  obtain ⟨nw, hnw⟩ : ∃ nw, nw = ws.length := ⟨_, rfl⟩
  have HWL : Hid (ws.length = nw) := hid_ hnw.symm
  rw [← hnw] at hw hl hd1 ⊢
  clear hnw
  go_enter Try.func11, Try.ntmps11
  go_wp2_with (go_at_call 34; (with_reducible refine (HN.out _ hb).mono ?_); rintro e w2 ⟨gr, rfl, hr2, hx2, hgr, hgr2⟩)
  go_loopw [8, 20] (fun s i wr => ∃ (k p : Nat) (acc : List Int) (A' : Option Addr) (c' : Nat), k ≤ nw ∧ i = .int .i64 (k : Int) ∧ s = .slice A' k c' ∧ wr.ownsRow (gr + 1) 3 1 (.slice A' k c') k (ints acc) ∧ Hid (acc.length = k) ∧ Hid (ez = rdGo (digsOf bs) (ws.drop k) p acc) ∧ RdS wr gr A n c p bs ∧ Ext w wr ∧ gr < wr.heap.size) (fun _ i _ => nw - (intOf i).toNat)
  case atStart => exact ⟨0, 0, [], none, 0, by omega, rfl, rfl, own_nil _ _ _ _, hid_ rfl, hid_ (by rw [HE.out]; rfl), hr2, hx2, hgr2⟩
  case round =>
    clear hr2 hx2 hgr2
    obtain ⟨k, p, acc, A9, c9, hk, rfl, rfl, hown, HAL, HZ, hr, hx, hgs⟩ := hrel
    have hpn : p ≤ 8 * n := hr.2.2.2.2.2.2
    by_cases hlt : k < nw
    · obtain ⟨ad, u, rfl, -, hxk, hcell⟩ := (hw.ext hx).at1 hlt
      obtain ⟨hkl, rfl⟩ := ints_at _ _ _ hxk
      have HDR : Hid (ws.drop k = ws[k] :: ws.drop (k + 1)) := hid_ (List.drop_eq_getElem_cons hkl)
      rw [HDR.out] at HZ
      clear hxk HDR
      generalize ws[k] = z at *
      have HW := hid_ (fun W => isWidth_any z W)
      by_cases hz : inB z 0 24 = true
      · rw [hz] at HW
        have HIZ := hid_ hz
        rw [inB_iff] at hz
        obtain ⟨zn, rfl⟩ : ∃ zn : Nat, z = (zn : Int) := ⟨z.toNat, by omega⟩
        by_cases hfit : p + zn ≤ 8 * n
        · have HZ2 : Hid (ez = rdGo (digsOf bs) (ws.drop (k + 1)) (p + zn) (acc ++ [((numB (((digsOf bs).drop p).take zn) : Nat) : Int)])) := hid_ (by
            rw [HZ.out, rdGo_one HIZ.out (by rw [HD.out]; simpa using hfit)]; rfl)
          have HG := hid_ (fun W h => get_yes gr A n c p bs zn W h hfit (by omega))
          generalize numB (((digsOf bs).drop p).take zn) = y at *
          clear HZ
          go_wp2_with (first
            | (go_at_call 25; (with_reducible refine (HW.out _).mono ?_); rintro e w4 ⟨rfl, rfl⟩)
            | (go_at_call 35; (with_reducible refine (HG.out _ hr).mono ?_); rintro e w5 ⟨rfl, hr5, hu5⟩; have hown5 := own_upd hown hu5 (fun x hx => by omega); have hx5 := hu5.ext hx (fun x hx => by omega); have hs5 := hu5.size)
            | (at_builtin; go_must (refine wpList_append_slf elt_intR rfl _ _ rfl (gr + 1) (.slice A9 k c9) _ _ rfl (hown5.alloc _) _ 1 [.int .i64 _] rfl (one_sl _ _ _) (int_one _) (by omega) (by omega) (by simp; omega) ?_); intro A7 c7 w7 hown7 hg7 hrow7))
          have hlt7 := (hown5.alloc (.cells #[.int .i64 (y : Int)] 3)).lt
          have hu7 := (Upd.refl (fun b => (Value.slice A9 k c9).ownBlock = some b) (w5.alloc (.cells #[.int .i64 (y : Int)] 3))).grown hg7 (fun b hb => .inl hb)
          have hr7 := (hr5.ext ((Ext.refl w5).alloc (.cells #[.int .i64 (y : Int)] 3))).upd hu7 (fun x hx => by have := hlt7 x hx; omega)
          have hx7 := hu7.ext (hx5.alloc _) (fun x hx => by have := hlt7 x hx; omega)
          have hs7 := hu7.size
          simp only [World.size_alloc] at hs7
          go_roundw
          case rel => exact ⟨k + 1, p + zn, acc ++ [(y : Int)], A7, c7, by omega, by go_num, rfl, by rw [ints_app]; exact hown7, hid_ (by simp [HAL.out]), HZ2, hr7, hx7, by omega⟩
          case measure => simp [intOf]; omega
        · have HG := hid_ (fun W h => get_no gr A n c p bs zn W h (by omega) (by omega))
          have HZ2 : Hid (ez = ([], 0, 3)) := hid_ (by rw [HZ.out, rdGo_out HIZ.out (by rw [HD.out]; simpa using hfit)])
          clear HZ
          go_wp2_with (first
            | (go_at_call 25; (with_reducible refine (HW.out _).mono ?_); rintro e w4 ⟨rfl, rfl⟩)
            | (go_at_call 35; (with_reducible refine (HG.out _ hr).mono ?_); rintro e w5 ⟨rfl, hx5⟩))
          go_ret3
          exact RdIs.err HZ2.out (hx.trans hx5)
      · have hz' : inB z 0 24 = false := by simpa using hz
        rw [hz'] at HW
        have HZ2 : Hid (ez = ([], 0, 1)) := hid_ (by rw [HZ.out, rdGo_bad hz'])
        clear HZ hz hz'
        go_wp2_with (go_at_call 25; (with_reducible refine (HW.out _).mono ?_); rintro e w4 ⟨rfl, rfl⟩)
        go_ret3
        exact RdIs.err HZ2.out hx
    · have ek : k = nw := by omega
      subst ek
      have HZ2 : Hid (ez = (acc, ((p : Nat) : Int), 0)) := hid_ (by rw [HZ.out, List.drop_of_length_le (by rw [HWL.out]; exact Nat.le_refl _)]; rfl)
      obtain ⟨hsl, -⟩ := own_out hown
      clear HZ
      have HC1 : ∀ W, Ext wr.drew W → W.cell? ⟨gr, 1, none⟩ = some (.int .i64 (p : Int)) := fun W hx => (hr.drew.ext hx).cells.2
      go_wp2_with fail
      refine wp_region_lx later_ext (by kernel_rfl) (by kernel_rfl) ?_
      refine lx_run (by rfl) (.slice A9 k c9) (ex_move rfl rfl) ?_
      simp only [Act.put, List.setIfInBounds_toArray, List.set_cons_succ, List.set_cons_zero]
      refine lx_run (by rfl) (.pointer (some ⟨gr, 0, none⟩)) (ex_move rfl rfl) ?_
      simp only [Act.put, List.setIfInBounds_toArray, List.set_cons_succ, List.set_cons_zero]
      refine lx_run (by rfl) (.pointer (some ⟨gr, 0, none⟩)) (ex_nil rfl rfl) ?_
      simp only [Act.put, List.setIfInBounds_toArray, List.set_cons_succ, List.set_cons_zero]
      refine lx_run (by rfl) (.pointer (some ⟨gr, 1, none⟩)) (fun W => by go_simp) ?_
      simp only [Act.put, List.setIfInBounds_toArray, List.set_cons_succ, List.set_cons_zero]
      refine lx_read (by rfl) (.int .i64 ((p : Nat) : Int)) (fun W hW => ex_loadI rfl rfl (HC1 W hW)) ?_
      simp only [Act.put, List.setIfInBounds_toArray, List.set_cons_succ, List.set_cons_zero]
      refine lx_run (by rfl) (.slice A9 k c9) (ex_assign rfl rfl) ?_
      simp only [Act.put, List.setIfInBounds_toArray, List.set_cons_succ, List.set_cons_zero]
      refine lx_run (by rfl) (.int .i64 ((p : Nat) : Int)) (ex_assign rfl rfl) ?_
      simp only [Act.put, List.setIfInBounds_toArray, List.set_cons_succ, List.set_cons_zero]
      refine lx_run (by rfl) (.int .i64 ((0 : Nat) : Int)) (ex_assign rfl rfl) ?_
      simp only [Act.put, List.setIfInBounds_toArray, List.set_cons_succ, List.set_cons_zero]
      refine lx_nil ?_
      intro w9 hx9
      go_wp2_with fail
      go_ret3
      rw [HZ2.out]
      have hsl9 := (hsl.ext ((Ext.refl wr).drew)).ext hx9
      exact ⟨A9, c9, by rw [HAL.out]; rfl, by rw [HAL.out]; exact hsl9, hx.drew.trans hx9⟩
end Go.Proofs.Ytbnjapgmpjkooaa
/- table.NewCoder, Coder.Put. -/
namespace Go.Proofs.Ytbnjapgmpjkooaa
set_option linter.unusedVariables false
set_option linter.unusedSimpArgs false
open Go.RowKit Go.Maps Go.WideMaps
set_option maxRecDepth 20000 in
set_option maxHeartbeats 1000000 in
theorem newCoder_any (cs xs : List Int) (sl : Value) (w : World) (hl : cs.length = 16) (hs : SL w 1 sl xs.length (ints xs)) (h : checkZ cs xs = 0) :
    Calls Try.prog 38 #[.agg (tblv cs sl)] w fun e w' => ∃ gc, e = .returned (.pointer (some ⟨gc, 0, none⟩)) ∧ CoderS w' gc (zipC (codesW cs 16) xs) ∧ Ext w w' := by
  obtain ⟨q1, q2, q3, q4, q5, q6⟩ := checkZ_zero h
  have HW := hid_ (fun W h => words_any cs xs sl W hl h q1 q4 q2 q3)
  have hts := hid_ (tblv_size cs sl hl)
  have hlen : (codesW cs 16).length = xs.length := by have := codesW_len cs (fun z hz => (allIn_iff.1 q1 z hz).1) 16 (by omega); omega
  have hZl : (zipC (codesW cs 16) xs).length = xs.length := by rw [zipC_len _ _ (by omega), hlen]
  have HAP := hid_ (zipC_apart cs xs q6 hlen)
  have HFIT := hid_ (codesW_fit cs q4 hl 16 (by omega))
  have HIN := hid_ (allIn_iff.1 q5)
  have HAT := hid_ (fun k (h1 : k < (codesW cs 16).length) (h2 : k < xs.length) hk => zipC_at (codesW cs 16) xs k h1 h2 hk)
  have hmm := @run_makeMap Try.prog
  generalize tblv cs sl = tv at *
  have HBD : Hid (∀ k (hk : k < (zipC (codesW cs 16) xs).length), 0 ≤ ((zipC (codesW cs 16) xs)[k]).1 ∧ ((zipC (codesW cs 16) xs)[k]).1 ≤ 255 ∧ okP ((zipC (codesW cs 16) xs)[k]).2) := hid_ (fun k hk => by
    have hk1 : k < (codesW cs 16).length := by omega
    have hk2 : k < xs.length := by omega
    rw [HAT.out k hk1 hk2 hk]
    have h1 := HIN.out _ (List.getElem_mem hk2)
    obtain ⟨f1, f2, f3⟩ := HFIT.out _ (List.getElem_mem hk1)
    have h2 := Nat.pow_le_pow_right (n := 2) (by omega) f2
    refine ⟨h1.1, h1.2, ⟨by simp only; omega, by simp only; omega⟩, by simp only; omega, by simp only; omega⟩)
  clear HAT HIN HFIT hlen
  generalize zipC (codesW cs 16) xs = Z at *
  have HZL := hid_ hZl
  clear h q1 q2 q4 q5 q6 hZl
  go_enter Try.func38, Try.ntmps38
  go_wp2_with (first
    | (refine wpList_box_abs rfl 38 (.tmp 0) rfl tv rfl ?_; intro w1 g hb1 hx1 hg; have hs1 := hs.ext hx1)
    | (refine wpList_box_abs rfl 111 (.tmp 8) rfl _ rfl ?_; intro w3 gc hbc hx3 hgc; have hb3 := ((hb1.alloc (.map #[] 0)).alloc (.map #[] 0)).ext hx3; have hs3 := (hs1.ext (((Ext.refl w1).alloc (.map #[] 0)).alloc (.map #[] 0))).ext hx3)
    | (refine wpList_load_blk rfl 38 (.tmp 1) rfl _ rfl hb3 _ Try.underlying38 rfl 17 sizeTbl hts.out ?_)
    | (go_at_call 57; (with_reducible refine (HW.out _ hs3).mono ?_); rintro e w4 ⟨A, c, rfl, hsl, hfr, hx4⟩))
  have hm1 : MapI Try.prog 3 w4 w1.heap.size 0 (symF []) := (((MapG.made w1).alloc (.map #[] 0)).ext hx3).ext hx4
  have hm2 : MapP w4 (w1.heap.size + 1) 0 (codeF []) := by
    have := (((MapG.made (P := Try.prog) (k := 116) (kl := klP) (ok := okP) (w1.alloc (.map #[] 0))).ext hx3).ext hx4)
    rwa [World.size_alloc] at this
  have hbc4 := hbc.ext hx4
  have hxw : Ext w w4 := ((((hx1.alloc (.map #[] 0)).alloc (.map #[] 0)).trans hx3).trans hx4)
  have hz1 := hx1.size
  have hz3 := hx3.size
  simp only [World.size_alloc] at hz3 hgc
  have hz4 := hx4.size
  have hc1 : xs.length ≤ c ∧ c ≤ 9223372036854775807 := by obtain ⟨A', c', e, h1, h2, -⟩ := hsl; injection e with e1 e2 e3; subst e3; exact ⟨h1, h2⟩
  obtain ⟨hc1, hc2⟩ := hc1
  generalize hM : w1.heap.size = M at *
  clear hM hmm hb1 hb3 hs1 hs3 hbc hx1 hx3 hx4 hs
  go_loopw [13] (fun i wr => ∃ k : Nat, k ≤ xs.length ∧ i = .int .i64 (k : Int) ∧ MapI Try.prog 3 wr M k (symF (Z.take k)) ∧ MapP wr (M + 1) k (codeF (Z.take k)) ∧ Upd (fun b => b = M ∨ b = M + 1) w4 wr) (fun i _ => xs.length - (intOf i).toNat)
  case atStart => exact ⟨0, by omega, rfl, hm1, hm2, Upd.refl _ _⟩
  case round =>
    clear hm1 hm2
    obtain ⟨k, hk, rfl, hm1, hm2, hu⟩ := hrel
    by_cases hlt : k < xs.length
    · have hkZ : k < Z.length := by have := HZL.out; omega
      have hslr := hsl.upd hu (fun ad h => by have := hfr ad h; omega)
      obtain ⟨ad, rfl, hbl, h1, h2, h3⟩ := hslr.tok hlt HZL.out hkZ
      have hbcr := hu.blk hbc4 (by omega)
      obtain ⟨a1, a2⟩ := HAP.out k hkZ
      obtain ⟨b1, b2, b3⟩ := HBD.out k hkZ
      have HS1 := hid_ (symF_snoc_same (Z.take k) Z[k] a1)
      have HS2 := hid_ (fun s => symF_snoc_other (Z.take k) Z[k] s)
      have HC1 := hid_ (codeF_snoc_same (Z.take k) Z[k] a2)
      have HC2 := hid_ (fun p => codeF_snoc_other (Z.take k) Z[k] p)
      have HTS := hid_ (toks_take_succ Z k hkZ)
      generalize Z[k] = t at *
      obtain ⟨t1, t2, t3⟩ := t
      simp only at b1 b2
      clear a1 a2
      have hkey1 := hid_ (keyOf_i64 (P := Try.prog) Try.underlying3 (a := t1) (by omega) (by omega))
      have hkey2 := hid_ (keyOf_P (t2, t3) b3)
      have HB3 := hid_ b3
      clear b3
      simp only at h1 h2 h3
      go_wp2_with fail
      have hn := Blk.new wr 115 #[.int .i64 t1, .int .i64 t2, .int .i64 t3]
      have hxa := Ext.alloc (Ext.refl wr) (.cells #[.int .i64 t1, .int .i64 t2, .int .i64 t3] 115)
      have hm1a := hm1.alloc (.cells #[.int .i64 t1, .int .i64 t2, .int .i64 t3] 115)
      have hm2a := hm2.alloc (.cells #[.int .i64 t1, .int .i64 t2, .int .i64 t3] 115)
      have hbca := hbcr.ext hxa
      have hua := hu.trans (Upd.of_ext (S := fun _ => False) hxa) (fun x hx => hx.elim)
      have hnz : wr.heap.size ≠ M ∧ wr.heap.size ≠ M + 1 := by have := hm1.lt; have := hm2.lt; omega
      generalize hw2 : wr.alloc (.cells #[.int .i64 t1, .int .i64 t2, .int .i64 t3] 115) = w5 at *
      generalize wr.heap.size = gn at *
      clear hw2 h1 h2 h3 hxa hm1 hm2 hbcr hu hslr
      have hcv : ∀ W, Blk W gn 115 #[.int .i64 t1, .int .i64 t2, .int .i64 t3] → W.cell? ⟨gn, 0, none⟩ = some (.int .i64 t1) ∧ W.cell? ⟨gn, 1, none⟩ = some (.int .i64 t2) ∧ W.cell? ⟨gn, 2, none⟩ = some (.int .i64 t3) := fun W h => ⟨h.cell 0, h.cell 1, h.cell 2⟩
      have hcc : ∀ W, Blk W gc 111 #[.map (some M), .map (some (M + 1))] → W.cell? ⟨gc, 0, none⟩ = some (.map (some M)) ∧ W.cell? ⟨gc, 1, none⟩ = some (.map (some (M + 1))) := fun W h => ⟨h.cell 0, h.cell 1⟩
      have HCV := hid_ hcv
      have HCC := hid_ hcc
      clear hcv hcc
      obtain ⟨n1, n2, n3⟩ := HCV.out _ hn
      obtain ⟨g1, g2⟩ := HCC.out _ hbca
      refine wp_region_lxt later_eq 7 (by kernel_rfl) (by kernel_rfl) ?_
      simp only [List.take_succ_cons, List.take_zero]
      iterate 7 (refine lx_ex (by rfl) ?_; apply Exists.intro; refine ⟨fun w hw => ?_, ?_⟩; · (subst hw; go_simp; with_reducible rfl)
                 simp only [Act.put, List.setIfInBounds_toArray, List.set_cons_succ, List.set_cons_zero])
      refine lx_nil ?_
      rintro w6 rfl
      try simp only [List.drop_succ_cons, List.drop_zero]
      clear n1 n2 n3 g1 g2
      have hm1d := hm1a.ext (w' := w5.drew) (Ext.refl w5).drew
      have hm2d := hm2a.ext (w' := w5.drew) (Ext.refl w5).drew
      go_wp2_with (at_mapUpdate; refine wpList_upd_g (by rfl) _ _ _ 108 115 rfl keyed_int Try.underlying108 rfl hm1d (by omega) _ rfl _ rfl t1 hkey1.out (symF (Z.take k ++ [(t1, t2, t3)])) HS1.out (fun j _ hj => HS2.out j (fun e => hj (by rw [e]))) (fun j _ hj => by injection hj) ?_; intro w7 hm7 hg7)
      have hn7 := hn.drew.grown hg7 (by simp; omega)
      have hb7 := hbca.drew.grown hg7 (by simp; omega)
      have hm27 := hm2d.grown hg7 (by simp)
      have hu7 := hua.drew.grown hg7 (fun b hb => .inl (by injection hb with hb; exact .inl hb.symm))
      obtain ⟨n1, n2, n3⟩ := HCV.out _ hn7
      obtain ⟨g1, g2⟩ := HCC.out _ hb7
      clear hm1d hm2d hm1a hm2a hua hg7
      simp only [Act.put, List.setIfInBounds_toArray, List.set_cons_succ, List.set_cons_zero]
      refine wp_region_lxt later_eq 11 (by kernel_rfl) (by kernel_rfl) ?_
      simp only [List.take_succ_cons, List.take_zero]
      iterate 11 (refine lx_ex (by rfl) ?_; apply Exists.intro; refine ⟨fun w hw => ?_, ?_⟩; · (subst hw; go_simp; with_reducible rfl)
                  simp only [Act.put, List.setIfInBounds_toArray, List.set_cons_succ, List.set_cons_zero])
      refine lx_nil ?_
      rintro w8 rfl
      try simp only [List.drop_succ_cons, List.drop_zero]
      clear n1 n2 n3 g1 g2
      have hm2e := hm27.ext (w' := w7.drew) (Ext.refl w7).drew
      have hm1e := hm7.ext (w' := w7.drew) (Ext.refl w7).drew
      go_wp2_with (at_mapUpdate; refine wpList_upd_g (by rfl) _ _ _ 109 3 rfl keyed_pair Try.underlying109 rfl hm2e (by omega) _ rfl _ rfl (t2, t3) hkey2.out (codeF (Z.take k ++ [(t1, t2, t3)])) HC1.out (fun j hj0 hj => HC2.out j (fun e => hj (by rw [e]))) (fun j hj0 hj => klP_inj hj0 HB3.out hj) ?_; intro w9 hm9 hg9)
      go_roundw
      case rel =>
        refine ⟨k + 1, by omega, by go_num, ?_, ?_, ?_⟩
        · rw [HTS.out]; exact hm1e.grown hg9 (by simp)
        · rw [HTS.out]; exact hm9
        · exact hu7.drew.grown hg9 (fun b hb => .inl (by injection hb with hb; exact .inr hb.symm))
      case measure => simp [intOf]; omega
    · have ek : k = xs.length := by omega
      have HF : Hid (Z.take k = Z) := hid_ (List.take_of_length_le (by have := HZL.out; omega))
      rw [HF.out] at hm1 hm2
      go_wp2_with fail
      go_ret
      exact ⟨gc, rfl, ⟨M, M + 1, k, hu.blk hbc4 (by omega), hm1, hm2⟩, hu.ext hxw (by omega)⟩
end Go.Proofs.Ytbnjapgmpjkooaa
