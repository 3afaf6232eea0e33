/- Contracts for the law TableDecodesUpto, part 9: what the functions that it reaches answer, for all arguments that the theorems name. -/
import Derived.Test.YtbnjapgmpjkooaaMTableDecodesUpto8
import Derived.Test.YtbnjapgmpjkooaaMTableDecodesUpto3
import Derived.Test.YtbnjapgmpjkooaaMTableDecodesUpto7
import Derived.Test.YtbnjapgmpjkooaaMTableDecodesUpto5
import Derived.Lib.FrozenHead
import Derived.Lib.Builder
import Derived.Lib.UnsafeStr
import Derived.Lib.AppendStr
import Derived.Laws.Externs
import Derived.RegionTactic
import Derived.Test.YtbnjapgmpjkooaaMTableDecodesUpto6
import Derived.Test.YtbnjapgmpjkooaaMTableDecodesUpto4
/- table.Decode. -/
namespace Go.Proofs.Ytbnjapgmpjkooaa
set_option linter.unusedVariables false
set_option linter.unusedSimpArgs false
open Go.RowKit
theorem decGo_yes {T : List Tok} {D : List Bool} {m p : Nat} {acc : List Int} (h : (symZ T D p).2.2 = 0) : decGo T D (m + 1) p acc = decGo T D m (symZ T D p).2.1 (acc ++ [(symZ T D p).1]) := by rw [decGo, if_pos h]
theorem decGo_no {T : List Tok} {D : List Bool} {m p : Nat} {acc : List Int} (h : (symZ T D p).2.2 ≠ 0) : decGo T D (m + 1) p acc = ([], 0, (symZ T D p).2.2) := by rw [decGo, if_neg h]
theorem coder_facts (cs xs : List Int) (hl : cs.length = 16) (h : checkZ cs xs = 0) : (zipC (codesW cs 16) xs).Pairwise (fun a b => a.2.1 ≤ b.2.1) ∧ (∀ t ∈ zipC (codesW cs 16) xs, ∃ l c : Nat, t.2 = ((l : Int), (c : Int)) ∧ 1 ≤ l ∧ l ≤ 16 ∧ c < 2 ^ l) ∧ (codesW cs 16).length = xs.length := by
  obtain ⟨q1, q2, q3, q4, q5, q6⟩ := checkZ_zero h
  have hlen : (codesW cs 16).length = xs.length := by have := codesW_len cs (fun z hz => (allIn_iff.1 q1 z hz).1) 16 (by omega); omega
  exact ⟨zipC_sorted _ _ (codesW_sorted cs 16) hlen, zipC_fits cs xs hl q4 hlen, hlen⟩
theorem getGo_symZ (cs xs : List Int) (hl : cs.length = 16) (h : checkZ cs xs = 0) (D : List Bool) (p : Nat) (hp : p ≤ D.length) : getGo (zipC (codesW cs 16) xs) D p 16 1 = symZ (zipC (codesW cs 16) xs) D p := by
  obtain ⟨h1, h2, -⟩ := coder_facts cs xs hl h
  refine getGo_sym _ D p h1 (fun t ht => ?_) 16 1 (by omega) (by omega) (by omega) (fun t ht h3 => ?_)
  · obtain ⟨l, c, e, a, b, -⟩ := h2 t ht
    exact ⟨l, c, e, a, b⟩
  · obtain ⟨l, c, e, a, b, -⟩ := h2 t ht
    rw [e] at h3
    simp only at h3
    omega
set_option maxRecDepth 20000 in
set_option maxHeartbeats 2000000 in
theorem decode_bad (cs xs : List Int) (bs : List Nat) (sl bv : Value) (many : Int) (w : World) (hl : cs.length = 16) (hs : SL w 1 sl xs.length (ints xs)) (h : checkZ cs xs ≠ 0 ∨ (checkZ cs xs = 0 ∧ inB many 0 20000 = false)) :
    Calls Try.prog 14 #[.agg (tblv cs sl), bv, .int .i64 many] w (RdIs (decZ cs xs (digsOf bs) many) w) := by
  have HC := hid_ (fun W h => check_any cs xs sl W hl h)
  have hts := hid_ (tblv_size cs sl hl)
  rcases h with h | ⟨h, h2⟩
  · have HE : Hid (decZ cs xs (digsOf bs) many = ([], 0, checkZ cs xs)) := hid_ (by unfold decZ; rw [if_neg h])
    generalize decZ cs xs (digsOf bs) many = ez at *
    generalize tblv cs sl = tv at *
    generalize checkZ cs xs = z at *
    have hz : (z != 0) = true := by simpa using h
    clear h
    go_enter Try.func14, Try.ntmps14
    go_wp2_with (first
      | (refine wpList_box_abs rfl 38 (.tmp 0) rfl tv rfl ?_; intro w1 g hb1 hx1 hg; have hs1 := hs.ext hx1)
      | (refine wpList_load_blk rfl 38 (.tmp 3) rfl _ rfl hb1 _ Try.underlying38 rfl 17 sizeTbl hts.out ?_)
      | (go_at_call 16; (with_reducible refine (HC.out _ hs1).mono ?_); rintro e w2 ⟨rfl, hx2⟩))
    go_ret3
    exact RdIs.err HE.out (hx1.trans hx2)
  · have HE : Hid (decZ cs xs (digsOf bs) many = ([], 0, 1)) := hid_ (by unfold decZ; rw [if_pos h, h2]; rfl)
    generalize decZ cs xs (digsOf bs) many = ez at *
    rw [h] at HC
    generalize tblv cs sl = tv at *
    clear h
    rw [inB_not] at h2
    by_cases hm : many < 0
    · have hd : decide (many < 0) = true := by simpa using hm
      go_enter Try.func14, Try.ntmps14
      go_wp2_with (first
        | (refine wpList_box_abs rfl 38 (.tmp 0) rfl tv rfl ?_; intro w1 g hb1 hx1 hg; have hs1 := hs.ext hx1)
        | (refine wpList_load_blk rfl 38 (.tmp 3) rfl _ rfl hb1 _ Try.underlying38 rfl 17 sizeTbl hts.out ?_)
        | (go_at_call 16; (with_reducible refine (HC.out _ hs1).mono ?_); rintro e w2 ⟨rfl, hx2⟩))
      go_ret3
      exact RdIs.err HE.out (hx1.trans hx2)
    · have hd : decide (many < 0) = false := by simpa using hm
      have hd2 : decide (20000 < many) = true := by simp; omega
      have hd3 : 20000 < many := by omega
      go_enter Try.func14, Try.ntmps14
      go_wp2_with (first
        | (refine wpList_box_abs rfl 38 (.tmp 0) rfl tv rfl ?_; intro w1 g hb1 hx1 hg; have hs1 := hs.ext hx1)
        | (refine wpList_load_blk rfl 38 (.tmp 3) rfl _ rfl hb1 _ Try.underlying38 rfl 17 sizeTbl hts.out ?_)
        | (go_at_call 16; (with_reducible refine (HC.out _ hs1).mono ?_); rintro e w2 ⟨rfl, hx2⟩))
      go_ret3
      exact RdIs.err HE.out (hx1.trans hx2)
set_option maxRecDepth 20000 in
set_option maxHeartbeats 2000000 in
theorem decode_good (cs xs : List Int) (bs : List Nat) (sl bv : Value) (mn : Nat) (w : World) (hl : cs.length = 16) (hs : SL w 1 sl xs.length (ints xs)) (hb : SL w 1 bv bs.length (bytesV bs)) (hlt : ∀ b ∈ bs, b < 256) (hn : bs.length ≤ 100000000000) (h : checkZ cs xs = 0) (h2 : mn ≤ 20000) :
    Calls Try.prog 14 #[.agg (tblv cs sl), bv, .int .i64 (mn : Int)] w (RdIs (decGo (zipC (codesW cs 16) xs) (digsOf bs) mn 0 []) w) := by
  have HC := hid_ (fun W h => check_any cs xs sl W hl h)
  rw [h] at HC
  have HNC := hid_ (fun W h' => newCoder_any cs xs sl W hl h' h)
  have HSY := hid_ (getGo_symZ cs xs hl h (digsOf bs))
  have hts := hid_ (tblv_size cs sl hl)
  have HD : Hid ((digsOf bs).length = 8 * bs.length) := hid_ (digsOf_len bs)
  have HLE := hid_ (fun p (h : p ≤ (digsOf bs).length) => symZ_le (T := zipC (codesW cs 16) xs) h)
  generalize zipC (codesW cs 16) xs = T at *
  generalize tblv cs sl = tv at *
  have hb' := hb
  obtain ⟨A, c, rfl, -, -, -, -⟩ := hb'
  have HN := hid_ (fun W h => newReader_any A bs.length c bs W h rfl hlt hn)
  clear h hlt
  obtain ⟨n, hnn⟩ : ∃ n, n = bs.length := ⟨_, rfl⟩
  rw [← hnn] at hb hn HN HD ⊢
  clear hnn
  obtain ⟨ez, hez⟩ : ∃ ez, ez = decGo T (digsOf bs) mn 0 [] := ⟨_, rfl⟩
  have HEZ := hid_ hez
  rw [← hez]
  clear hez
  have hdm : decide ((mn : Int) < 0) = false := by simp
  go_enter Try.func14, Try.ntmps14
  go_wp2_with (first
    | (refine wpList_box_abs rfl 38 (.tmp 0) rfl tv rfl ?_; intro w1 g hb1 hx1 hg; have hs1 := hs.ext hx1)
    | (refine wpList_load_blk rfl 38 (.tmp 3) rfl _ rfl hb1 _ Try.underlying38 rfl 17 sizeTbl hts.out ?_)
    | (go_at_call 16; (with_reducible refine (HC.out _ hs1).mono ?_); rintro e w2 ⟨rfl, hx2⟩; have hb2 := hb1.ext hx2; have hs2 := hs1.ext hx2)
    | (refine wpList_load_blk rfl 38 (.tmp 3) rfl _ rfl hb2 _ Try.underlying38 rfl 17 sizeTbl hts.out ?_)
    | (go_at_call 38; (with_reducible refine (HNC.out _ hs2).mono ?_); rintro e w3 ⟨gc, rfl, hcd, hx3⟩; have hbb := hb.ext ((hx1.trans hx2).trans hx3))
    | (go_at_call 34; (with_reducible refine (HN.out _ hbb).mono ?_); rintro e w4 ⟨gr, rfl, hr4, hx4, hgr, hgr4⟩))
  have hx := ((hx1.trans hx2).trans hx3).trans hx4
  have hbl4 : Below gr w3 w4 := by rw [← hgr]; exact hx4
  clear hb1 hb2 hs1 hs2 hbb
  go_loopw [12, 31] (fun s i wr => ∃ (k p : Nat) (acc : List Int) (A' : Option Addr) (c' : Nat), k ≤ mn ∧ i = .int .i64 (k : Int) ∧ s = .slice A' k c' ∧ wr.ownsRow (gr + 1) 3 1 (.slice A' k c') k (ints acc) ∧ Hid (acc.length = k) ∧ Hid (ez = decGo T (digsOf bs) (mn - k) p acc) ∧ RdS wr gr A n c p bs ∧ Ext w wr ∧ Below gr w3 wr ∧ gr < wr.heap.size) (fun _ i _ => mn - (intOf i).toNat)
  case atStart => exact ⟨0, 0, [], none, 0, by omega, rfl, rfl, own_nil _ _ _ _, hid_ rfl, HEZ, hr4, hx, hbl4, hgr4⟩
  case round =>
    have hgx : w.heap.size ≤ gr := by have := ((hx1.trans hx2).trans hx3).size; omega
    clear HEZ hr4 hx hbl4 hgr4 hx1 hx2 hx3 hx4
    obtain ⟨k, p, acc, A9, c9, hk, rfl, rfl, hown, HAL, HEZ, hr, hx, hbl, hgs⟩ := hrel
    have hpn : p ≤ 8 * n := hr.2.2.2.2.2.2
    by_cases hlt : k < mn
    · have HEK : Hid (ez = decGo T (digsOf bs) (mn - (k + 1) + 1) p acc) := hid_ (by rw [HEZ.out, show mn - (k + 1) + 1 = mn - k by omega])
      clear HEZ
      have HG := hid_ (fun W h1 h2 h3 => coderGet_any gc gr T A n c p bs w3 W hcd (Nat.le_of_eq hgr) h1 h2 h3)
      rw [HSY.out p (by rw [HD.out]; exact hpn)] at HG
      have hle := HLE.out p (by rw [HD.out]; exact hpn)
      by_cases he : (symZ T (digsOf bs) p).2.2 = 0
      · have HZ2 := hid_ (HEK.out.trans (decGo_yes he))
        rw [he] at HG
        simp only [true_implies] at HG
        clear HEK he
        generalize (symZ T (digsOf bs) p).1 = y at *
        generalize (symZ T (digsOf bs) p).2.1 = q at *
        go_wp2_with (first
          | (go_at_call 39; (with_reducible refine (HG.out _ hbl hr hgs).mono ?_); rintro e w5 ⟨rfl, hr5, hu5⟩; have hown5 := own_upd hown hu5 (fun x hx => by omega); have hx5 := hu5.ext hx (fun x hx => by omega); have hs5 := hu5.size; have hbl5 := hbl.trans (hu5.below (fun x hx => by omega) (by omega)))
          | (at_builtin; go_must (refine wpList_append_slf elt_intR rfl _ _ rfl (gr + 1) (.slice A9 k c9) _ _ rfl (hown5.alloc _) _ 1 [.int .i64 _] rfl (one_sl _ _ _) (int_one _) (by omega) (by omega) (by simp; omega) ?_); intro A7 c7 w7 hown7 hg7 hrow7))
        have hlt7 := (hown5.alloc (.cells #[.int .i64 y] 3)).lt
        have hu7 := (Upd.refl (fun b => (Value.slice A9 k c9).ownBlock = some b) (w5.alloc (.cells #[.int .i64 y] 3))).grown hg7 (fun b hb => .inl hb)
        have hr7 := (hr5.ext ((Ext.refl w5).alloc (.cells #[.int .i64 y] 3))).upd hu7 (fun x hx => by have := hlt7 x hx; omega)
        have hx7 := hu7.ext (hx5.alloc _) (fun x hx => by have := hlt7 x hx; omega)
        have hbl7 := (hbl5.trans (Below.alloc (Below.refl gr w5) (by omega) (.cells #[.int .i64 y] 3))).trans (hu7.below (fun x hx => by have := hlt7 x hx; omega) (by simp; omega))
        have hs7 := hu7.size
        simp only [World.size_alloc] at hs7
        go_roundw
        case rel => exact ⟨k + 1, q, acc ++ [y], A7, c7, by omega, by go_num, rfl, by rw [ints_app]; exact hown7, hid_ (by simp [HAL.out]), HZ2, hr7, hx7, hbl7, by omega⟩
        case measure => simp [intOf]; omega
      · have HZ2 := hid_ (HEK.out.trans (decGo_no he))
        have he2 : ((symZ T (digsOf bs) p).2.2 != 0) = true := by simpa using he
        clear HEK he
        generalize (symZ T (digsOf bs) p).1 = y at *
        generalize (symZ T (digsOf bs) p).2.1 = q at *
        generalize (symZ T (digsOf bs) p).2.2 = er at *
        go_wp2_with (go_at_call 39; (with_reducible refine (HG.out _ hbl hr hgs).mono ?_); rintro e w5 ⟨rfl, -, hu5⟩; have hx5 := hu5.ext hx (fun x hx => by omega))
        go_ret3
        exact RdIs.err HZ2.out hx5
    · have ek : k = mn := by omega
      subst ek
      have HZ2 : Hid (ez = (acc, ((p : Nat) : Int), 0)) := hid_ (by rw [HEZ.out, Nat.sub_self]; rfl)
      obtain ⟨hsl, -⟩ := own_out hown
      clear HEZ
      have HL := hid_ (fun W h => left_any gr A n c p bs W h)
      have hwr1 : IntKind.i64.wrap (8 * (n : Int)) = 8 * (n : Int) := IntWalk.i64_in _ (by omega)
      have hwr2 : IntKind.i64.wrap (8 * (n : Int) - ((8 * n - p : Nat) : Int)) = (p : Int) := by rw [IntWalk.i64_in _ (by omega)]; omega
      generalize 8 * n - p = l at *
      go_wp2_with (go_at_call 40; (with_reducible refine (HL.out _ hr).mono ?_); rintro e w5 ⟨rfl, hx5⟩)
      go_ret3
      rw [HZ2.out]
      have hsl9 := hsl.ext hx5
      exact ⟨A9, c9, by rw [HAL.out]; rfl, by rw [HAL.out]; exact hsl9, hx.trans hx5⟩
end Go.Proofs.Ytbnjapgmpjkooaa
/- strings.HasPrefix on strings of digits. -/
namespace Go.Proofs.Ytbnjapgmpjkooaa
set_option linter.unusedVariables false
set_option linter.unusedSimpArgs false
open Go.RowKit
def preB (L M : List Bool) : Bool := decide (M.length ≤ L.length) && decide (L.take M.length = M)
theorem strB_beq (A M : List Bool) : ((strB A).toList == (strB M).toList) = decide (A = M) := by
  rw [Bool.eq_iff_iff]
  simp only [beq_iff_eq, decide_eq_true_eq, ByteArray.toList_eq, strB_data]
  exact ⟨fun e => strB_inj (by unfold strB; rw [e]), fun h => by rw [h]⟩
set_option maxHeartbeats 1000000 in
theorem prefixLite_any (L M : List Bool) (w : World) (hl : L.length ≤ 10000000000000) (hm : M.length ≤ 10000000000000) :
    Calls Try.prog 67 #[.string (strB L), .string (strB M)] w fun e w' => e = .returned (.bool (preB L M)) ∧ w = w' := by
  have hs := strB_size L
  have hs2 := strB_size M
  have HX := hid_ (strB_extract L 0 M.length (by omega))
  simp only [List.drop_zero, Nat.sub_zero] at HX
  by_cases h : M.length ≤ L.length
  · have HQ : Hid ((((strB L).extract 0 M.length).toList == (strB M).toList) = preB L M) := hid_ (by rw [HX.out, strB_beq]; simp [preB, h])
    have hge : decide (((strB M).size : Int) ≤ ((strB L).size : Int)) = true := by simp; omega
    have hle : (strB M).size ≤ (strB L).size := by omega
    generalize strB L = sb at *
    generalize strB M = sm at *
    go_enter Try.func67, Try.ntmps67
    go_wp2_with fail
    go_ret
    exact ⟨by rw [← HQ.out]; rfl, rfl⟩
  · have hge : decide (((strB M).size : Int) ≤ ((strB L).size : Int)) = false := by simp; omega
    have HE : Hid (preB L M = false) := hid_ (by simp [preB, h])
    rw [HE.out]
    have hle : ¬ (strB M).size ≤ (strB L).size := by omega
    generalize strB L = sb at *
    generalize strB M = sm at *
    have hgeI : ¬ (M.length : Int) ≤ (L.length : Int) := by omega
    go_enter Try.func67, Try.ntmps67
    go_wp2_with fail
    go_ret
    exact ⟨by rfl, rfl⟩
theorem prefix_any (L M : List Bool) (w : World) (hl : L.length ≤ 10000000000000) (hm : M.length ≤ 10000000000000) :
    Calls Try.prog 60 #[.string (strB L), .string (strB M)] w fun e w' => e = .returned (.bool (preB L M)) ∧ w = w' := by
  have H := hid_ (fun W => prefixLite_any L M W hl hm)
  generalize strB L = sb at *
  generalize strB M = sm at *
  generalize preB L M = b at *
  go_enter Try.func60, Try.ntmps60
  go_wp2_with (go_at_call 67; (with_reducible refine (H.out _).mono ?_); rintro e w2 ⟨rfl, rfl⟩)
  go_ret
  exact ⟨rfl, rfl⟩
end Go.Proofs.Ytbnjapgmpjkooaa
/- symOf of the reference. -/
namespace Go.Proofs.Ytbnjapgmpjkooaa
set_option linter.unusedVariables false
set_option linter.unusedSimpArgs false
open Go.RowKit
section
variable {o : Oper} {a : Act}
theorem run_loadIs (W : World) (p : Addr) (A : Option Addr) (n c : Nat) (h : W.cell? p = some (.slice A n c)) : (Instr.loadAt 31 (.pointer (some p))).run Try.prog W = .ok (.slice A n c) W := by
  go_simp
theorem ex_loadIs {x : Operand} (ho : o.op = .load 31 x) {p : Addr} (hx : a.eval x = .pointer (some p)) {A : Option Addr} {n c : Nat} {w : World} (h : w.cell? p = some (.slice A n c)) : (execOp a.eval o).run Try.prog w = .ok (.value (.slice A n c)) w := by
  simp [execOp, ho, hx, run_loadIs w p A n c h]
end
theorem preB_wordIn (B : List Bool) (x : Int) (l c : Nat) (hc : c < 2 ^ l) : preB B (digs c l) = wordIn B 0 (x, (l : Int), (c : Int)) := by
  unfold preB wordIn
  rw [digs_len]
  simp only [Int.toNat_natCast, Nat.zero_add, List.drop_zero]
  by_cases h : l ≤ B.length
  · simp only [h, decide_true, Bool.true_and]
    rw [Bool.eq_iff_iff]
    simp only [decide_eq_true_eq, beq_iff_eq]
    constructor
    · intro e; rw [e, numB_digs_lt hc]
    · intro e
      refine numB_inj (by rw [List.length_take, digs_len]; omega) ?_
      rw [numB_digs_lt hc]
      exact_mod_cast e
  · simp [h]
theorem sym_hit {T : List Tok} {D : List Bool} {p k : Nat} (hk : k < T.length) (hno : ∀ t ∈ T.take k, wordIn D p t = false) (h : wordIn D p T[k] = true) : symZ T D p = (T[k].1, p + T[k].2.1.toNat, 0) := by
  refine symZ_some ?_
  rw [List.find?_eq_some_iff_append]
  refine ⟨h, T.take k, T.drop (k + 1), ?_, fun a ha => by simp [hno a ha]⟩
  rw [← List.drop_eq_getElem_cons hk, List.take_append_drop]
theorem sym_miss {T : List Tok} {D : List Bool} {p : Nat} (hno : ∀ t ∈ T, wordIn D p t = false) : symZ T D p = (0, p, if D.length < p + 16 then 3 else 4) := by
  refine symZ_none ?_
  rw [List.find?_eq_none]
  intro a ha
  simp [hno a ha]
set_option maxRecDepth 20000 in
set_option maxHeartbeats 2000000 in
theorem symOf_any (cs xs : List Int) (sl : Value) (B : List Bool) (w : World) (hl : cs.length = 16) (hs : SL w 1 sl xs.length (ints xs)) (h : checkZ cs xs = 0) (hB : B.length ≤ 10000000000000) :
    Calls Try.prog 42 #[.agg (tblv cs sl), .string (strB B)] w fun e w' => e = .returned (.tuple #[.int .i64 (symZ (zipC (codesW cs 16) xs) B 0).1, .string (if (symZ (zipC (codesW cs 16) xs) B 0).2.2 = 0 then strB (B.drop (symZ (zipC (codesW cs 16) xs) B 0).2.1) else ⟨#[]⟩), .int .i64 (symZ (zipC (codesW cs 16) xs) B 0).2.2]) ∧ Ext w w' := by
  obtain ⟨hal, hsum, hx256, hok, -, -⟩ := checkZ_zero h
  obtain ⟨-, hfit, -⟩ := coder_facts cs xs hl h
  have HF := hid_ (codesW_fit cs hok hl 16 (by omega))
  have hlast := hid_ (fun W g (h : Blk W g 38 (tblv cs sl)) => tblv_last h hl)
  have hts := hid_ (tblv_size cs sl hl)
  have HWO := hid_ (fun W => wordsOf_yes cs sl W hl hal hok)
  have hlen : (codesW cs 16).length = xs.length := by have := codesW_len cs (fun z hz => (allIn_iff.1 hal z hz).1) 16 (by omega); omega
  have hol := outW_len cs
  rw [hlen] at hol
  rw [hol] at HWO
  have HAT := hid_ (outW_at cs)
  have HZA := hid_ (zipC_at (codesW cs 16) xs)
  have HZL : Hid ((zipC (codesW cs 16) xs).length = xs.length) := hid_ (by rw [zipC_len _ _ (by omega), hlen])
  have HCL := hid_ hlen
  have hs' := hs
  obtain ⟨A, c, rfl, hc1, hc2, -, -⟩ := hs'
  have HPR := hid_ (fun l k W (h1 : l ≤ 100) => prefix_any B (digs k l) W hB (by rw [digs_len]; omega))
  have HPW := hid_ (preB_wordIn B)
  have HSX := hid_ (strB_extract B)
  have HSS := hid_ (strB_size B)
  have HZZ : Hid (∀ z, z = symZ (zipC (codesW cs 16) xs) B 0 → True) := hid_ (fun _ _ => trivial)
  generalize tblv cs (.slice A xs.length c) = tv at *
  generalize strs (outW cs 16) = SS at *
  clear HZZ hfit
  have HT : Hid (∀ k (h : k < (zipC (codesW cs 16) xs).length), (∀ t ∈ (zipC (codesW cs 16) xs).take k, wordIn B 0 t = false) → wordIn B 0 (zipC (codesW cs 16) xs)[k] = true → symZ (zipC (codesW cs 16) xs) B 0 = ((zipC (codesW cs 16) xs)[k].1, 0 + (zipC (codesW cs 16) xs)[k].2.1.toNat, 0)) := hid_ (fun k h h1 h2 => sym_hit h h1 h2)
  have HM := hid_ (sym_miss (T := zipC (codesW cs 16) xs) (D := B) (p := 0))
  generalize codesW cs 16 = C at *
  clear hal hok hsum h hol hlen
  obtain ⟨ez, hez⟩ : ∃ ez, ez = symZ (zipC C xs) B 0 := ⟨_, rfl⟩
  rw [← hez]
  rw [← hez] at HT HM
  clear hez
  obtain ⟨s9, hs9⟩ : ∃ s9, s9 = (if ez.2.2 = 0 then strB (B.drop ez.2.1) else ⟨#[]⟩) := ⟨_, rfl⟩
  have HS9 := hid_ hs9
  rw [← hs9]
  clear hs9
  generalize hsb : strB B = sb at *
  have HSB := hid_ hsb
  clear hsb
  go_enter Try.func42, Try.ntmps42
  go_wp2_with (first
    | (refine wpList_box_abs rfl 38 (.tmp 0) rfl tv rfl ?_; intro w1 g hb1 hx1 hg)
    | (refine wpList_load_blk rfl 38 (.tmp 2) rfl _ rfl hb1 _ Try.underlying38 rfl 17 sizeTbl hts.out ?_)
    | (go_at_call 59; (with_reducible refine (HWO.out _).mono ?_); rintro e w2 ⟨B2, d, rfl, hs2, hx2⟩))
  have hsx := hs.ext (hx1.trans hx2)
  have hxw := hx1.trans hx2
  have hc16 := hlast.out _ _ (hb1.ext hx2)
  have hgl : g < w2.heap.size := (hb1.ext hx2).lt
  go_loop [18] (fun i => ∃ k : Nat, k ≤ xs.length ∧ i = .int .i64 (k : Int) ∧ Hid (∀ t ∈ (zipC C xs).take k, wordIn B 0 t = false)) (fun i => xs.length - (intOf i).toNat)
  case atStart => exact ⟨0, by omega, rfl, hid_ (by simp)⟩
  case round =>
    obtain ⟨k, hk, rfl, HNO⟩ := hrel
    by_cases hlt : k < xs.length
    · have hkC : k < C.length := by have := HCL.out; omega
      have hkz : k < (zipC C xs).length := by rw [HZL.out]; exact hlt
      obtain ⟨ad, u, hA, hab, hxk, hcell⟩ := hsx.at1 hlt
      obtain ⟨hkl2, rfl⟩ := ints_at _ _ _ hxk
      obtain ⟨bd, u, hB2, hbl, hsk, hcells⟩ := hs2.at1 hlt
      rw [HAT.out k hkC] at hsk
      injection hsk with hsk
      subst hsk
      subst hA hB2
      clear hxk
      have e1 := HZA.out k hkC hkl2 hkz
      obtain ⟨f1, f2, f3⟩ := HF.out _ (List.getElem_mem hkC)
      have HP := hid_ (fun W => HPR.out C[k].1 C[k].2 W (by omega))
      have HPQ := hid_ (HPW.out xs[k] C[k].1 C[k].2 (by omega))
      rw [← e1] at HPQ
      have hsz : (strB (digs C[k].2 C[k].1)).size = C[k].1 := by rw [strB_size, digs_len]
      rw [HPQ.out] at HP
      have HHIT := hid_ (HT.out k hkz HNO.out)
      have HNX : Hid (wordIn B 0 (zipC C xs)[k] = false → ∀ t ∈ (zipC C xs).take (k + 1), wordIn B 0 t = false) := hid_ (fun h t ht => by
        rw [List.take_succ_eq_append_getElem hkz] at ht
        rcases List.mem_append.1 ht with h1 | h1
        · exact HNO.out t h1
        · simp at h1; subst h1; exact h)
      cases hw : wordIn B 0 (zipC C xs)[k] with
      | false =>
        rw [hw] at HP
        have HN2 := hid_ (HNX.out hw)
        clear HHIT HNX hw HPQ e1
        generalize xs[k] = x at *
        generalize C[k].1 = l at *
        generalize C[k].2 = cd at *
        generalize strB (digs cd l) = sw at *
        go_wp2_with (go_at_call 60; (with_reducible refine (HP.out _).mono ?_); rintro e w5 ⟨rfl, rfl⟩)
        go_round
        case rel => exact ⟨k + 1, by omega, by go_num, HN2⟩
        case measure => simp [intOf]; omega
      | true =>
        rw [hw] at HP
        have HZ := hid_ (HHIT.out hw)
        rw [e1] at HZ
        have hlB : C[k].1 ≤ B.length := by
          rw [e1] at hw
          simp only [wordIn, Int.toNat_natCast, Bool.and_eq_true, decide_eq_true_eq] at hw
          omega
        have HXX := hid_ (HSX.out C[k].1 B.length hlB)
        clear HHIT HNX hw HPQ e1
        generalize xs[k] = x at *
        generalize C[k].1 = l at *
        generalize C[k].2 = cd at *
        generalize strB (digs cd l) = sw at *
        have HC16 : ∀ W, Ext w2.drew W → W.cell? ⟨g, 16, none⟩ = some (.slice (some ad) xs.length c) := fun W hx => (hx.cell (p := ⟨g, 16, none⟩) hgl).trans hc16
        have HCX : ∀ W, Ext w2.drew W → W.cell? (ad.add (k * 1)) = some (.int .i64 x) := fun W hx => by
          rw [Nat.mul_one]
          exact (hx.cell (by rw [block_of_add]; exact hab)).trans hcell
        have hswl : sw.size ≤ sb.size := by have := HSS.out; omega
        clear HZA
        have HSZ := hid_ hsz
        clear hsz
        generalize xs.length = n at *
        go_wp2_with (go_at_call 60; (with_reducible refine (HP.out _).mono ?_); rintro e w5 ⟨rfl, rfl⟩)
        refine wp_region_lx later_ext (by kernel_rfl) (by kernel_rfl) ?_
        refine lx_run (by rfl) (.pointer (some ⟨g, 16, none⟩)) (fun W => by go_simp) ?_
        simp only [Act.put, List.setIfInBounds_toArray, List.set_cons_succ, List.set_cons_zero]
        refine lx_read (by rfl) (.slice (some ad) n c) (fun W hW => ex_loadIs rfl rfl (HC16 W hW)) ?_
        simp only [Act.put, List.setIfInBounds_toArray, List.set_cons_succ, List.set_cons_zero]
        refine lx_run (by rfl) (.int .i64 ((k : Nat) : Int)) (ex_move rfl rfl) ?_
        simp only [Act.put, List.setIfInBounds_toArray, List.set_cons_succ, List.set_cons_zero]
        refine lx_run (by rfl) (.pointer (some (ad.add (k * 1)))) (ex_ixSl Try.underlying31 sizeI rfl rfl rfl (by omega)) ?_
        simp only [Act.put, List.setIfInBounds_toArray, List.set_cons_succ, List.set_cons_zero]
        refine lx_read (by rfl) (.int .i64 (x)) (fun W hW => ex_loadI rfl rfl (HCX W hW)) ?_
        simp only [Act.put, List.setIfInBounds_toArray, List.set_cons_succ, List.set_cons_zero]
        refine lx_run (by rfl) (.string sb) (ex_move rfl rfl) ?_
        simp only [Act.put, List.setIfInBounds_toArray, List.set_cons_succ, List.set_cons_zero]
        refine lx_run (by rfl) (.string sw) (ex_move rfl rfl) ?_
        simp only [Act.put, List.setIfInBounds_toArray, List.set_cons_succ, List.set_cons_zero]
        refine lx_run (by rfl) (.int .i64 ((sw.size : Nat) : Int)) (fun W => by go_simp) ?_
        simp only [Act.put, List.setIfInBounds_toArray, List.set_cons_succ, List.set_cons_zero]
        refine lx_run (by rfl) (.string (sb.extract sw.size sb.size)) (fun W => by go_simp) ?_
        simp only [Act.put, List.setIfInBounds_toArray, List.set_cons_succ, List.set_cons_zero]
        refine lx_run (by rfl) (.int .i64 (x)) (ex_assign rfl rfl) ?_
        simp only [Act.put, List.setIfInBounds_toArray, List.set_cons_succ, List.set_cons_zero]
        refine lx_run (by rfl) (.string (sb.extract sw.size sb.size)) (ex_assign rfl rfl) ?_
        simp only [Act.put, List.setIfInBounds_toArray, List.set_cons_succ, List.set_cons_zero]
        refine lx_run (by rfl) (.int .i64 ((0 : Nat) : Int)) (ex_assign rfl rfl) ?_
        simp only [Act.put, List.setIfInBounds_toArray, List.set_cons_succ, List.set_cons_zero]
        refine lx_nil ?_
        intro w9 hx9
        go_wp2_with fail
        go_ret3
        rw [HS9.out, HZ.out]
        refine ⟨?_, hxw.drew.trans hx9⟩
        have e9 : sb.extract sw.size sb.size = strB (B.drop l) := by
          rw [HSZ.out, HSS.out, HXX.out, List.take_of_length_le (by simp)]
        simp only [Nat.zero_add, Int.toNat_natCast, if_true]
        rw [← e9]
        rfl
    · have ek : k = xs.length := by omega
      have HALL := hid_ (HM.out (fun t ht => HNO.out t (by rw [List.take_of_length_le (by rw [HZL.out, ek]; exact Nat.le_refl _)]; exact ht)))
      have hss := HSS.out
      by_cases h16 : B.length < 16
      · rw [if_pos (by omega)] at HALL
        have hd : decide ((sb.size : Int) < 16) = true := by simp; omega
        go_wp2_with fail
        go_ret3
        rw [HS9.out, HALL.out]
        exact ⟨rfl, hxw⟩
      · rw [if_neg (by omega)] at HALL
        have hd : decide ((sb.size : Int) < 16) = false := by simp; omega
        have hd2 : ¬ sb.size < 16 := by omega
        go_wp2_with fail
        go_ret3
        rw [HS9.out, HALL.out]
        exact ⟨rfl, hxw⟩
end Go.Proofs.Ytbnjapgmpjkooaa
/- strings.Builder: WriteString and String of a builder that the call made, in binary digits. -/
namespace Go.Proofs.Ytbnjapgmpjkooaa
set_option linter.unusedVariables false
set_option linter.unusedSimpArgs false
open Go.RowKit
def bitC (L : List Bool) : List Value := Lib.byteCells (L.map chB)
theorem bitC_len (L : List Bool) : (bitC L).length = L.length := by simp [bitC, Lib.byteCells]
theorem bitC_str (L D : List Bool) : bitC L ++ Lib.strCells (strB D) = bitC (L ++ D) := by
  simp [bitC, Lib.byteCells, Lib.strCells, strB_data]
/-- the builder in block b holds these digits; its buffer is row r -/
def BldS (w : World) (b : Nat) (L : List Bool) (r : Option Nat) : Prop :=
  ∃ p v, (p = .pointer none ∨ p = .pointer (some ⟨b, 0, none⟩)) ∧ w.heap[b]? = some (.cells #[p, v] 67 (0, 0)) ∧ w.ownsRowF (b + 1) 5 1 v L.length (bitC L) ∧ v.ownBlock = r ∧ (L = [] → v = .slice none 0 0)
theorem BldS.new (w : World) (b : Nat) (h : Blk w b 67 #[.pointer none, .slice none 0 0]) : BldS w b [] none :=
  ⟨_, _, .inl rfl, h, ⟨by simp [bitC, Lib.byteCells], .inl ⟨rfl, rfl⟩⟩, rfl, fun _ => rfl⟩
theorem BldS.lt {w : World} {b : Nat} {L : List Bool} {r : Option Nat} (h : BldS w b L r) : b < w.heap.size := by
  obtain ⟨p, v, -, hb, -⟩ := h
  exact Blk.lt (w := w) (t := 67) (cs := #[p, v]) hb
theorem BldS.row {w : World} {b : Nat} {L : List Bool} {r : Option Nat} (h : BldS w b L r) : ∀ k, r = some k → b < k ∧ k < w.heap.size := by
  obtain ⟨p, v, -, hb, hown, hr, -⟩ := h
  intro k hk
  rcases hown.2 with ⟨rfl, -⟩ | ⟨g, cap, cur, fz, rfl, h1, hg, -⟩
  · rw [← hr] at hk; simp [Value.ownBlock] at hk
  · rw [← hr] at hk
    have : g = k := by simpa [Value.ownBlock] using hk
    subst this
    refine ⟨by omega, ?_⟩
    rcases Nat.lt_or_ge g w.heap.size with h' | h'
    · exact h'
    · simp [Array.getElem?_eq_none h'] at hg
theorem ownsRowF_upd {w w' : World} {B n : Nat} {e : TypeId} {v : Value} {xs : List Value} (hown : w.ownsRowF B e 1 v n xs) (h : ∀ k, v.ownBlock = some k → k < w.heap.size → w'.heap[k]? = w.heap[k]?) : w'.ownsRowF B e 1 v n xs := by
  refine ⟨hown.1, ?_⟩
  rcases hown.2 with ⟨rfl, h2⟩ | ⟨g, cap, cur, fz, rfl, h1, hg, h3⟩
  · exact .inl ⟨rfl, h2⟩
  · refine .inr ⟨g, cap, cur, fz, rfl, h1, ?_, h3⟩
    rw [h g (by simp [Value.ownBlock]) ?_]
    · exact hg
    · rcases Nat.lt_or_ge g w.heap.size with h' | h'
      · exact h'
      · simp [Array.getElem?_eq_none h'] at hg
theorem BldS.upd {S : Nat → Prop} {w w' : World} {b : Nat} {L : List Bool} {r : Option Nat} (h : BldS w b L r) (hu : Upd S w w') (h1 : ¬ S b) (h2 : ∀ k, r = some k → ¬ S k) : BldS w' b L r := by
  have hlt := h.lt
  obtain ⟨p, v, hp, hb, hown, hr, h0⟩ := h
  exact ⟨p, v, hp, (hu.block b hlt h1).trans hb, ownsRowF_upd hown (fun k hk hkl => hu.block k hkl (h2 k (by rw [← hr, hk]))), hr, h0⟩
theorem BldS.ext {w w' : World} {b : Nat} {L : List Bool} {r : Option Nat} (h : BldS w b L r) (hx : Ext w w') : BldS w' b L r :=
  h.upd (S := fun _ => False) (Upd.of_ext hx) (by simp) (by simp)
theorem BldS.drew {w : World} {b : Nat} {L : List Bool} {r : Option Nat} (h : BldS w b L r) : BldS w.drew b L r := h
theorem sizeBld : (Try.prog.info? 67).map (·.size) = some 2 := by kernel_rfl
theorem liesBld : liesAt Try.prog Try.prog.depth 67 (2 / Try.prog.cellsOf 67) 0 67 1 = true := by kernel_rfl
theorem zeroBld : (Try.prog.info? 67).bind (·.zero) = some (.agg #[.pointer none, .slice none 0 0]) := by kernel_rfl
theorem infoU8 : (Try.prog.info? 5).map (fun i => (i.zero, i.size, i.bytes)) = some (some (.int .u8 0), 1, 1) := by kernel_rfl
theorem cellsU8 : Try.prog.cellsOf 5 = 1 := by kernel_rfl
set_option maxHeartbeats 1000000 in
set_option maxRecDepth 100000 in
theorem copyCheck_used (b : Nat) (w : World) (h0 : w.cell? ⟨b, 0, none⟩ = some (.pointer (some ⟨b, 0, none⟩))) :
    Calls Try.prog 56 #[.pointer (some ⟨b, 0, none⟩)] w fun e w' => e = .returned (.tuple #[]) ∧ w = w' := by
  obtain ⟨j, hj, _⟩ := Option.map_eq_some_iff.1 sizeBld
  have hne := fun W => Lib.run_neq_ptr_same (P := Try.prog) W ⟨b, 0, none⟩ Try.underlying65 hj
  go_enter Try.func56, Try.ntmps56
  go_wp2_with fail
  go_end0
  exact ⟨rfl, rfl⟩
set_option maxHeartbeats 1000000 in
set_option maxRecDepth 100000 in
theorem copyCheck_fresh (b : Nat) (w : World) (h0 : w.cell? ⟨b, 0, none⟩ = some (.pointer none)) (hsh : w.shape? b = some (67, 2)) (hfz : w.frozen? ⟨b, 0, none⟩ = false) :
    Calls Try.prog 56 #[.pointer (some ⟨b, 0, none⟩)] w fun e w' => e = .returned (.tuple #[]) ∧ w' = w.setCell ⟨b, 0, none⟩ (.pointer (some ⟨b, 0, none⟩)) := by
  obtain ⟨j, hj, hjs⟩ := Option.map_eq_some_iff.1 sizeBld
  go_enter Try.func56, Try.ntmps56
  go_wp2_with fail
  rw [Lib.run_to_unsafe w ⟨b, 0, none⟩ Try.underlying65 Try.underlying124 hj (by rw [hjs]; decide) hsh (Nat.zero_lt_succ 1)]
  simp only [Result.andThen]
  rw [Oper.upon_value]
  go_wp2_with fail
  rw [run_callFunc_extern Try.func66 (by kernel_rfl) (by kernel_rfl) (by kernel_rfl) (e := Extern.AbiNoEscape.same) (by kernel_rfl)]
  rw [Lib.run_noEscape]
  simp only [Result.andThen]
  rw [Oper.upon_value]
  go_wp2_with fail
  rw [Lib.run_from_unsafe w ⟨b, 0, none⟩ Try.underlying124 Try.underlying65 hj hsh liesBld]
  simp only [Result.andThen]
  rw [Oper.upon_value]
  go_wp2_with fail
  go_end0
  exact ⟨rfl, rfl⟩
theorem copyCheck_any (b : Nat) (L : List Bool) (r : Option Nat) (w : World) (h : BldS w b L r) :
    Calls Try.prog 56 #[.pointer (some ⟨b, 0, none⟩)] w fun e w' => e = .returned (.tuple #[]) ∧ (∃ v, w'.heap[b]? = some (.cells #[.pointer (some ⟨b, 0, none⟩), v] 67 (0, 0)) ∧ w'.ownsRowF (b + 1) 5 1 v L.length (bitC L) ∧ v.ownBlock = r ∧ (L = [] → v = .slice none 0 0)) ∧ Upd (fun x => x = b) w w' := by
  obtain ⟨p, v, hp, hb, hown, hr, h0⟩ := h
  have c0 : w.cell? ⟨b, 0, none⟩ = some p := by rw [Lib.cell_of_heap hb]; rfl
  rcases hp with rfl | rfl
  · refine (copyCheck_fresh b w c0 (by simp [World.shape?, hb]) (by simp [World.frozen?, hb])).mono ?_
    rintro e w' ⟨rfl, rfl⟩
    refine ⟨rfl, ⟨v, by simp [World.setCell, Array.getElem?_modify, hb], ownsRowF_upd hown (fun k hk hkl => Below.heap_setCell _ _ _ _ ?_), hr, h0⟩, (Upd.refl (fun x => x = b) w).setCell (p := ⟨b, 0, none⟩) rfl _⟩
    rcases hown.2 with ⟨rfl, -⟩ | ⟨g, cap, cur, fz, rfl, h1, -⟩
    · simp [Value.ownBlock] at hk
    · have : g = k := by simpa [Value.ownBlock] using hk
      show k ≠ b
      omega
  · refine (copyCheck_used b w c0).mono ?_
    rintro e w' ⟨rfl, rfl⟩
    exact ⟨rfl, ⟨v, hb, hown, hr, h0⟩, Upd.refl _ w⟩
set_option maxHeartbeats 2000000 in
set_option maxRecDepth 100000 in
theorem writeString_any (b : Nat) (L D : List Bool) (r : Option Nat) (w : World) (h : BldS w b L r) (hlen : L.length + D.length ≤ 140737488355328) :
    Calls Try.prog 30 #[.pointer (some ⟨b, 0, none⟩), .string (strB D)] w fun e w' => e = .returned (.tuple #[.int .i64 (D.length : Int), .nilIface]) ∧
      ∃ r', BldS w' b (L ++ D) r' ∧ Upd (fun x => x = b ∨ r = some x) w w' := by
  obtain ⟨i0, hi, hz0, hz1, hz2⟩ := info_parts infoU8
  have hsz := strB_size D
  have HC := hid_ (copyCheck_any b L r w h)
  have hblt := h.lt
  have hD := hid_ (bitC_str L D)
  generalize hs : strB D = s at *
  go_enter Try.func30, Try.ntmps30
  go_wp2_with (go_at_call 56; refine HC.out.mono ?_)
  rintro e w1 ⟨rfl, ⟨v, hbk, hown, rfl, h0⟩, hu1⟩
  have c0 : w1.cell? ⟨b, 0, none⟩ = some (.pointer (some ⟨b, 0, none⟩)) := by rw [Lib.cell_of_heap hbk]; rfl
  have c1 : w1.cell? ⟨b, 1, none⟩ = some v := by rw [Lib.cell_of_heap hbk]; rfl
  have hb1 := hu1.size
  have HS := hid_ hsz
  clear hsz
  go_wp2_with (at_builtin; refine Lib.wpList_append_own_stringF _ rfl _ _ 23 9 rfl (b + 1) 5 i0 Try.underlying23 Try.underlying9 hi hz0 hz1 hz2 _ _ _ rfl hown s rfl ?c3 ?c4 ?c5 ?_)
  case c3 => have := HS.out; unfold maxLen; omega
  case c4 => have := HS.out; omega
  case c5 => omega
  intro v' w2 hown' hgrow hiff
  have hvb : v.ownBlock ≠ some b := by
    rcases hown.2 with ⟨rfl, -⟩ | ⟨g, cap, cur, fz, rfl, h1, -⟩
    · simp [Value.ownBlock]
    · simp only [Value.ownBlock, ne_eq, Option.some.injEq]; omega
  have hb2 : w2.heap[b]? = some (.cells #[.pointer (some ⟨b, 0, none⟩), v] 67 (0, 0)) := by
    rw [hgrow.block b (by omega) (fun e => hvb e.symm)]
    exact hbk
  have d0 : w2.cell? ⟨b, 0, none⟩ = some (.pointer (some ⟨b, 0, none⟩)) := by rw [Lib.cell_of_heap hb2]; rfl
  have d1 : w2.cell? ⟨b, 1, none⟩ = some v := by rw [Lib.cell_of_heap hb2]; rfl
  have f1 : w2.frozen? ⟨b, 1, none⟩ = false := Lib.frozen_of_heap hb2 1
  have hu2 : Upd (fun x => x = b ∨ v.ownBlock = some x) w w2 := by
    have h9 : Upd (fun x => x = b ∨ v.ownBlock = some x) w w1 := ⟨hu1.os, hu1.tape, hu1.output, hu1.size, fun x hx hn => hu1.block x hx (fun e => hn (.inl e))⟩
    exact h9.grown hgrow (fun k hk => .inl (.inr hk))
  have HI := hid_ hiff
  obtain ⟨ao, n', cap, rfl⟩ : ∃ ao n' cap, v' = .slice ao n' cap := by
    rcases hown'.2 with ⟨hv, _⟩ | ⟨g, cap, cur, fz, hv, _⟩
    · exact ⟨_, _, _, hv⟩
    · exact ⟨_, _, _, hv⟩
  have hv'b : (Value.slice ao n' cap).ownBlock ≠ some b := by
    rcases hown'.2 with ⟨hv, -⟩ | ⟨g, cap, cur, fz, hv, h1, -⟩
    · rw [hv]; simp [Value.ownBlock]
    · rw [hv]; simp only [Value.ownBlock, ne_eq, Option.some.injEq]; omega
  clear hiff
  go_wp2_with fail
  go_ret2
  refine ⟨by first | rfl | (rw [HS.out]; rfl), _, ⟨.pointer (some ⟨b, 0, none⟩), .slice ao n' cap, .inr rfl, by simp [World.setCell, Array.getElem?_modify, hb2], ?_, rfl, ?_⟩, hu2.setCell (p := ⟨b, 1, none⟩) (.inl rfl) _⟩
  · rw [← hD.out, List.length_append, ← HS.out]
    exact ownsRowF_upd hown' (fun k hk hkl => Below.heap_setCell _ _ _ _ (fun e => hv'b (by rw [hk, e])))
  · intro hnil
    obtain ⟨hL, hDn⟩ := List.append_eq_nil_iff.1 hnil
    have hs0 : s = ByteArray.empty := by rw [← hs, hDn]; rfl
    exact HI.out.2 ⟨h0 hL, hs0⟩
theorem unsafeString_none (W : World) (q : Option Addr) : (Builtin.unsafeString_ #[107, 3] 9 #[.pointer q, .int .i64 0]).run Try.prog W = .ok (.string .empty) W :=
  Lib.run_unsafeString_none W _ _ _ q
set_option maxHeartbeats 2000000 in
set_option maxRecDepth 100000 in
theorem string_nil (b : Nat) (p : Value) (w : World) (hbk : w.heap[b]? = some (.cells #[p, .slice none 0 0] 67 (0, 0))) :
    Calls Try.prog 33 #[.pointer (some ⟨b, 0, none⟩)] w fun e w' => e = .returned (.string ⟨#[]⟩) ∧ Ext w w' := by
  have hUS := unsafeString_none
  have c1 : w.drew.cell? ⟨b, 1, none⟩ = some (.slice none 0 0) := by
    have : w.drew.heap[b]? = some (.cells #[p, .slice none 0 0] 67 (0, 0)) := hbk
    rw [Lib.cell_of_heap this]; rfl
  have hSD : (Builtin.unsafeSliceData_ #[23] 107 #[.slice none 0 0]).run Try.prog w.drew = .ok (.pointer none) w.drew := rfl
  go_enter Try.func33, Try.ntmps33
  go_wp2_with fail
  go_region
  all_goals (go_wp2_with fail; go_ret; exact ⟨rfl, (Ext.refl w).drew⟩)
set_option maxHeartbeats 2000000 in
set_option maxRecDepth 100000 in
theorem string_some (b : Nat) (L : List Bool) (r : Option Nat) (w : World) (h : BldS w b L r) (h0 : L ≠ []) :
    Calls Try.prog 33 #[.pointer (some ⟨b, 0, none⟩)] w fun e w' => e = .returned (.string (strB L)) ∧ Upd (fun x => r = some x) w w' := by
  obtain ⟨p, v, -, hbk, hown, rfl, -⟩ := h
  have hl0 : L.length ≠ 0 := by simpa using h0
  have hm : L.map chB ≠ [] := by simpa using h0
  obtain ⟨g, cap, cur, fz, rfl, hbg, hg, hfz, hnc, hcm, hcs, htake⟩ : ∃ g cap cur fz, v = .slice (some ⟨g, 0, none⟩) L.length cap ∧ b + 1 ≤ g ∧ w.heap[g]? = some (.cells cur 5 fz) ∧ fz.2 ≤ L.length * 1 ∧ L.length ≤ cap ∧ cap ≤ maxLen ∧ cur.size = cap * 1 ∧ cur.toList.take (L.length * 1) = bitC L := by
    rcases hown.2 with ⟨_, hz⟩ | ⟨g, cap, cur, fz, hv, r⟩
    · exact absurd hz hl0
    · exact ⟨g, cap, cur, fz, hv, r⟩
  have c1 : w.drew.cell? ⟨b, 1, none⟩ = some (.slice (some ⟨g, 0, none⟩) L.length cap) := by
    have : w.drew.heap[b]? = some (.cells #[p, .slice (some ⟨g, 0, none⟩) L.length cap] 67 (0, 0)) := hbk
    rw [Lib.cell_of_heap this]; rfl
  have hSD : (Builtin.unsafeSliceData_ #[23] 107 #[.slice (some ⟨g, 0, none⟩) L.length cap]).run Try.prog w.drew = .ok (.pointer (some ⟨g, 0, none⟩)) w.drew :=
    Lib.run_unsafeSliceData_row _ _ _ _ _ _ (by omega)
  have hUS : (Builtin.unsafeString_ #[107, 3] 9 #[.pointer (some ⟨g, 0, none⟩), .int .i64 (L.length : Int)]).run Try.prog w.drew = .ok (.string (strB L)) (w.drew.freeze ⟨g, 0, none⟩ L.length) := by
    have := Lib.run_unsafeString_row (P := Try.prog) w.drew 107 3 9 5 Try.underlying107 cellsU8 g cur.size (by have hg' : w.drew.heap[g]? = some (.cells cur 5 fz) := hg; simp [World.shape?, hg']) (L.map chB) hm (by rw [List.length_map]; omega) (by rw [List.length_map]; unfold maxLen at hcm; omega) (fun j x hx => by
      have := hown.cells (g := g) rfl j (.int .u8 x.toNat) (by simp only [bitC, Lib.byteCells, List.getElem?_map] at hx ⊢; rw [hx]; rfl)
      exact this)
    rw [List.length_map] at this
    exact this
  have hfr : Upd (fun x => (Value.slice (some ⟨g, 0, none⟩) L.length cap).ownBlock = some x) w (w.drew.freeze ⟨g, 0, none⟩ L.length) := by
    unfold World.freeze
    split
    · exact (Upd.refl _ w).drew
    · exact ⟨rfl, rfl, rfl, by simp, fun x hx hn => by
        have hne : g ≠ x := fun e => hn (by rw [← e]; rfl)
        show (w.heap.modify g _)[x]? = _
        rw [Array.getElem?_modify, if_neg hne]⟩
  generalize w.drew.freeze ⟨g, 0, none⟩ L.length = wf at *
  clear hl0 hm h0
  go_enter Try.func33, Try.ntmps33
  go_wp2_with fail
  go_region
  all_goals (go_wp2_with fail; go_ret; exact ⟨rfl, hfr⟩)
theorem string_any (b : Nat) (L : List Bool) (r : Option Nat) (w : World) (h : BldS w b L r) :
    Calls Try.prog 33 #[.pointer (some ⟨b, 0, none⟩)] w fun e w' => e = .returned (.string (strB L)) ∧ Upd (fun x => r = some x) w w' := by
  by_cases h0 : L = []
  · subst h0
    obtain ⟨p, v, -, hbk, -, -, hv⟩ := h
    rw [hv rfl] at hbk
    refine (string_nil b p w hbk).mono ?_
    rintro e w' ⟨rfl, hx⟩
    exact ⟨rfl, Upd.of_ext hx⟩
  · exact string_some b L r w h h0
end Go.Proofs.Ytbnjapgmpjkooaa
/- digitsOf of the reference. -/
namespace Go.Proofs.Ytbnjapgmpjkooaa
set_option linter.unusedVariables false
set_option linter.unusedSimpArgs false
open Go.RowKit
theorem digsOf_succ (b : List Nat) (k : Nat) (h : k < b.length) : digsOf (b.take (k + 1)) = digsOf (b.take k) ++ digs b[k] 8 := by
  rw [List.take_succ_eq_append_getElem h, digsOf_append]
  simp [digsOf]
theorem bytes_get {bs : List Nat} {k : Nat} {u : Value} (h : (bytesV bs)[k]? = some u) : ∃ hk : k < bs.length, u = .int .u8 ((bs[k] : Nat) : Int) := by
  unfold bytesV at h
  rw [List.getElem?_map] at h
  obtain ⟨z, hz, rfl⟩ := Option.map_eq_some_iff.1 h
  obtain ⟨hk, rfl⟩ := List.getElem?_eq_some_iff.1 hz
  exact ⟨hk, rfl⟩
set_option maxRecDepth 20000 in
set_option maxHeartbeats 1000000 in
theorem digitsOf_any (bs : List Nat) (v : Value) (w : World) (hv : SL w 1 v bs.length (bytesV bs)) (hlt : ∀ b ∈ bs, b < 256) (hl : bs.length ≤ 1000000000000) :
    Calls Try.prog 36 #[v] w fun e w' => e = .returned (.string (strB (digsOf bs))) ∧ Ext w w' := by
  have hv' := hv
  obtain ⟨A, c, rfl, hc1, hc2, -, -⟩ := hv'
  have HB := hid_ hlt
  have HSU := hid_ (digsOf_succ bs)
  obtain ⟨n, hnn⟩ : ∃ n, n = bs.length := ⟨_, rfl⟩
  have HBL : Hid (bs.length = n) := hid_ hnn.symm
  rw [← hnn] at hv hl hc1 ⊢
  clear hnn hlt
  go_enter Try.func36, Try.ntmps36
  go_wp2_with (refine wpList_alloc_abs' rfl (some 3) rfl 67 rfl _ zeroBld ?_; intro w1 gw hbB hxB hgB)
  have hw0 := BldS.new w1 gw hbB
  clear hbB
  go_loopw [8] (fun i wr => ∃ (k : Nat) (r : Option Nat), k ≤ n ∧ i = .int .i64 (k : Int) ∧ BldS wr gw (digsOf (bs.take k)) r ∧ Ext w wr) (fun i _ => n - (intOf i).toNat)
  case atStart => exact ⟨0, none, by omega, rfl, by simpa [digsOf] using hw0, hxB⟩
  case round =>
    clear hw0
    obtain ⟨k, r, hk, rfl, hwr, hbl⟩ := hrel
    by_cases hlt : k < n
    · obtain ⟨ad, u, rfl, -, hxk, hcell⟩ := (hv.ext hbl).at1 hlt
      obtain ⟨hkl, rfl⟩ := bytes_get hxk
      have hx8 : bs[k] < 256 := HB.out _ (List.getElem_mem hkl)
      have HS := hid_ (HSU.out k hkl)
      clear hxk
      generalize bs[k] = x at *
      have hx64 : IntKind.i64.wrap (x : Int) = (x : Int) := IntWalk.i64_in _ (by omega)
      have HBI : Hid (∀ W, Calls Try.prog 31 #[.int .i64 8, .int .i64 (x : Int)] W fun e w' => e = .returned (.string (strB (digs x 8))) ∧ W = w') := hid_ (fun W => by
        have := binary_any 8 x W (by omega) (by omega)
        rw [binS_strB] at this
        exact this)
      have hll : (digsOf (bs.take k)).length ≤ 8 * k := by rw [digsOf_len, List.length_take]; omega
      have HDL := digs_len x 8
      have HP := hid_ (fun W h => writeString_any gw (digsOf (bs.take k)) (digs x 8) r W h (by omega))
      have hrow := hwr.row
      have hgb := hwr.lt
      generalize digs x 8 = D at *
      generalize hsD : strB D = sD at *
      clear hsD
      go_wp2_with (first
        | (go_at_call 31; (with_reducible refine (HBI.out _).mono ?_); rintro e w4 ⟨rfl, rfl⟩)
        | (go_at_call 30; (with_reducible refine (HP.out _ hwr).mono ?_); rintro e w5 ⟨rfl, r', hw5, hu5⟩))
      go_roundw
      case rel =>
        refine ⟨k + 1, r', by omega, by go_num, by rw [HS.out]; exact hw5, hu5.ext hbl (fun x hx => ?_)⟩
        rcases hx with rfl | hx
        · exact hgB
        · have := hrow x hx; omega
      case measure => simp [intOf]; omega
    · have e1 : bs.take k = bs := List.take_of_length_le (by have := HBL.out; omega)
      rw [e1] at hwr
      have HS := hid_ (fun W h => string_any gw (digsOf bs) r W h)
      have hrow := hwr.row
      generalize hsa : strB (digsOf bs) = sa at *
      have HSA := hid_ hsa
      clear hsa
      go_wp2_with (go_at_call 33; (with_reducible refine (HS.out _ hwr).mono ?_); rintro e w5 ⟨rfl, hu5⟩)
      go_ret
      exact ⟨by rw [HSA.out]; rfl, hu5.ext hbl (fun x hx => by have := hrow x hx; omega)⟩
end Go.Proofs.Ytbnjapgmpjkooaa
