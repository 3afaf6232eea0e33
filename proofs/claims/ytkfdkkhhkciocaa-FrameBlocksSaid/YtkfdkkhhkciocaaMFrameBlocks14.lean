/- Contracts for the law FrameBlocks, part 14: what the functions that it reaches answer, for all arguments that the theorems name. -/
import Derived.Test.YtkfdkkhhkciocaaMFrameBlocks13
import Derived.Test.YtkfdkkhhkciocaaMFrameBlocks4
import Derived.Test.YtkfdkkhhkciocaaMFrameBlocks3
import Derived.Test.YtkfdkkhhkciocaaMFrameBlocks5
import Derived.Test.YtkfdkkhhkciocaaMFrameBlocks6
import Derived.Test.YtkfdkkhhkciocaaMFrameBlocks7
import Derived.Test.YtkfdkkhhkciocaaMFrameBlocks10
import Derived.Test.YtkfdkkhhkciocaaMFrameBlocks11
import Derived.Test.YtkfdkkhhkciocaaMFrameBlocks12
import Derived.Deep.Cut
/- R.PictureCheck. -/
namespace Go.Proofs.Ytkfdkkhhkciocaa
set_option linter.unusedVariables false
set_option linter.unusedSimpArgs false
open Go.RowKit
set_option maxRecDepth 20000 in
set_option maxHeartbeats 1000000 in
theorem pchk_sides (wd hi : Int) (L : List (List Int)) (A : Option Addr) (n c : Nat) (w : World) (hr : RowsS w A n c L) (h : sidesZ wd hi ≠ 0) :
    Calls Try.prog 53 #[.agg (picV wd hi (.slice A n c))] w fun e w' => e = .returned (.int .i64 1) ∧ Ext w w' := by
  have HM := hid_ (fun W => sidesCheck_any wd hi W)
  rw [sides_no h] at HM
  clear h
  have HC := hid_ (fun W g (h : Blk W g 53 (picV wd hi (.slice A n c))) => pic_cells h)
  generalize picV wd hi (.slice A n c) = pv at *
  go_enter Try.func53, Try.ntmps53
  go_wp2_with (first
    | (refine wpList_box_abs rfl 53 (.tmp 0) rfl pv rfl ?_; intro w1 g hb1 hx12 hg; obtain ⟨d0, d1, d2⟩ := HC.out _ _ hb1)
    | (go_at_call 95; (with_reducible refine (HM.out _).mono ?_); rintro e w2 ⟨rfl, rfl⟩; have hb2 := hb1))
  go_ret
  exact ⟨rfl, hx12⟩
set_option maxRecDepth 20000 in
set_option maxHeartbeats 1000000 in
theorem pchk_parts (wd hi : Int) (L : List (List Int)) (A : Option Addr) (n c : Nat) (w : World) (hr : RowsS w A n c L) (h0 : sidesZ wd hi = 0) (h : ¬ (L.length = 1 ∨ L.length = 3)) :
    Calls Try.prog 53 #[.agg (picV wd hi (.slice A n c))] w fun e w' => e = .returned (.int .i64 1) ∧ Ext w w' := by
  have HM := hid_ (fun W => sidesCheck_any wd hi W)
  rw [h0] at HM
  clear h0
  have HC := hid_ (fun W g (h : Blk W g 53 (picV wd hi (.slice A n c))) => pic_cells h)
  rw [hr.len] at h
  have hn1 : ((n : Int) != 1) = true := by simp; omega
  have hn3 : ((n : Int) != 3) = true := by simp; omega
  clear h
  generalize picV wd hi (.slice A n c) = pv at *
  go_enter Try.func53, Try.ntmps53
  go_wp2_with (first
    | (refine wpList_box_abs rfl 53 (.tmp 0) rfl pv rfl ?_; intro w1 g hb1 hx12 hg; obtain ⟨d0, d1, d2⟩ := HC.out _ _ hb1)
    | (go_at_call 95; (with_reducible refine (HM.out _).mono ?_); rintro e w2 ⟨rfl, rfl⟩; have hb2 := hb1))
  go_ret
  exact ⟨rfl, hx12⟩
set_option maxRecDepth 20000 in
set_option maxHeartbeats 2000000 in
theorem pchk_in1 (wd hi : Int) (L : List (List Int)) (A : Option Addr) (n c : Nat) (w : World) (hr : RowsS w A n c L) (h0 : sidesZ wd hi = 0) (h : n = 1) :
    Calls Try.prog 53 #[.agg (picV wd hi (.slice A n c))] w fun e w' => e = .returned (.int .i64 (firstE (L.map fun l => cutE l wd hi))) ∧ Ext w w' := by
  have HM := hid_ (fun W => sidesCheck_any wd hi W)
  rw [h0] at HM
  have HS0 := hid_ h0
  obtain ⟨a, b, ea, eb, -, ha, -, hb⟩ := sides_ok h0
  have hm : a * b ≤ 64 * 64 := Nat.mul_le_mul ha hb
  have hw1 : IntKind.i64.wrap (wd * hi) = wd * hi := by rw [ea, eb, ← Int.natCast_mul]; exact IntWalk.i64_in _ (by omega)
  clear h0
  have HC := hid_ (fun W g (h : Blk W g 53 (picV wd hi (.slice A n c))) => pic_cells h)
  have hn1 : ((n : Int) != 1) = false := by simp; omega
  have hn9 : n ≤ 3 := by omega
  have HL := hid_ hr.len
  clear h
  generalize picV wd hi (.slice A n c) = pv at *
  clear ea eb hm ha hb
  go_enter Try.func53, Try.ntmps53
  go_wp2_with (first
    | (refine wpList_box_abs rfl 53 (.tmp 0) rfl pv rfl ?_; intro w1 g hb1 hx12 hg; obtain ⟨d0, d1, d2⟩ := HC.out _ _ hb1)
    | (go_at_call 95; (with_reducible refine (HM.out _).mono ?_); rintro e w2 ⟨rfl, rfl⟩; have hb2 := hb1))
  clear d0 d1 d2
  go_loopw [27] (fun i wr => ∃ (k : Nat), k ≤ n ∧ i = .int .i64 (k : Int) ∧ Hid (∀ x ∈ L.take k, cutE x wd hi = 0) ∧ Blk wr g 53 pv ∧ Ext w wr) (fun i _ => n - (intOf i).toNat)
  case atStart => exact ⟨0, by omega, rfl, hid_ (by simp), hb2, hx12⟩
  case round =>
    clear hb2 hx12
    obtain ⟨k, hk, rfl, HT, hb, hx⟩ := hrel
    by_cases hlt : k < n
    · obtain ⟨ad, l, B, d, rfl, hl, hab, hcell, hsl⟩ := (hr.ext hx).get hlt
      have HLK := hid_ hl
      obtain ⟨d0, d1, d2⟩ := HC.out _ _ hb
      clear hl
      have HSA := hid_ (samples_any l _ wr hsl)
      by_cases hlen : (l.length : Int) = wd * hi
      · have hne : ((l.length : Int) != wd * hi) = false := by simpa using hlen
        cases hq : allIn l 0 255 with
        | true =>
          have HZ : Hid (cutE l wd hi = 0) := hid_ (by unfold cutE; rw [if_pos HS0.out, if_pos hlen, hq]; rfl)
          rw [hq] at HSA
          clear hlen hq
          go_wp2_with (go_at_call 96; (with_reducible refine (HSA.out).mono ?_); rintro e w4 ⟨rfl, hx4⟩)
          go_roundw
          case rel => exact ⟨k + 1, by omega, by go_num, hid_ (take_all0 HT.out HLK.out HZ.out), hb.ext hx4, hx.trans hx4⟩
          case measure => simp [intOf]; omega
        | false =>
          have HZ : Hid (cutE l wd hi = 1) := hid_ (by unfold cutE; rw [if_pos HS0.out, if_pos hlen, hq]; rfl)
          have HF := hid_ (pic_first HT.out HLK.out HZ.out (by decide))
          rw [hq] at HSA
          clear hlen hq
          go_wp2_with (go_at_call 96; (with_reducible refine (HSA.out).mono ?_); rintro e w4 ⟨rfl, hx4⟩)
          go_ret
          rw [HF.out]
          exact ⟨rfl, hx.trans hx4⟩
      · have hne : ((l.length : Int) != wd * hi) = true := by simpa using hlen
        have HZ : Hid (cutE l wd hi = 4) := hid_ (by unfold cutE; rw [if_pos HS0.out, if_neg hlen])
        have HF := hid_ (pic_first HT.out HLK.out HZ.out (by decide))
        clear hlen
        go_wp2_with fail
        go_ret
        rw [HF.out]
        exact ⟨rfl, hx⟩
    · have ek : k = n := by omega
      have HF : Hid (firstE (L.map fun l => cutE l wd hi) = 0) := hid_ (firstE_all _ (fun y hy => by
        obtain ⟨x, hx, rfl⟩ := List.mem_map.1 hy
        exact HT.out x (by rw [ek, ← HL.out, List.take_length]; exact hx)))
      go_wp2_with fail
      go_ret
      rw [HF.out]
      exact ⟨rfl, hx⟩
set_option maxRecDepth 20000 in
set_option maxHeartbeats 2000000 in
theorem pchk_in3 (wd hi : Int) (L : List (List Int)) (A : Option Addr) (n c : Nat) (w : World) (hr : RowsS w A n c L) (h0 : sidesZ wd hi = 0) (h : n = 3) :
    Calls Try.prog 53 #[.agg (picV wd hi (.slice A n c))] w fun e w' => e = .returned (.int .i64 (firstE (L.map fun l => cutE l wd hi))) ∧ Ext w w' := by
  have HM := hid_ (fun W => sidesCheck_any wd hi W)
  rw [h0] at HM
  have HS0 := hid_ h0
  obtain ⟨a, b, ea, eb, -, ha, -, hb⟩ := sides_ok h0
  have hm : a * b ≤ 64 * 64 := Nat.mul_le_mul ha hb
  have hw1 : IntKind.i64.wrap (wd * hi) = wd * hi := by rw [ea, eb, ← Int.natCast_mul]; exact IntWalk.i64_in _ (by omega)
  clear h0
  have HC := hid_ (fun W g (h : Blk W g 53 (picV wd hi (.slice A n c))) => pic_cells h)
  have hn1 : ((n : Int) != 1) = true := by simp; omega
  have hn3 : ((n : Int) != 3) = false := by simp; omega
  have hn9 : n ≤ 3 := by omega
  have HL := hid_ hr.len
  clear h
  generalize picV wd hi (.slice A n c) = pv at *
  clear ea eb hm ha hb
  go_enter Try.func53, Try.ntmps53
  go_wp2_with (first
    | (refine wpList_box_abs rfl 53 (.tmp 0) rfl pv rfl ?_; intro w1 g hb1 hx12 hg; obtain ⟨d0, d1, d2⟩ := HC.out _ _ hb1)
    | (go_at_call 95; (with_reducible refine (HM.out _).mono ?_); rintro e w2 ⟨rfl, rfl⟩; have hb2 := hb1))
  clear d0 d1 d2
  go_loopw [27] (fun i wr => ∃ (k : Nat), k ≤ n ∧ i = .int .i64 (k : Int) ∧ Hid (∀ x ∈ L.take k, cutE x wd hi = 0) ∧ Blk wr g 53 pv ∧ Ext w wr) (fun i _ => n - (intOf i).toNat)
  case atStart => exact ⟨0, by omega, rfl, hid_ (by simp), hb2, hx12⟩
  case round =>
    clear hb2 hx12
    obtain ⟨k, hk, rfl, HT, hb, hx⟩ := hrel
    by_cases hlt : k < n
    · obtain ⟨ad, l, B, d, rfl, hl, hab, hcell, hsl⟩ := (hr.ext hx).get hlt
      have HLK := hid_ hl
      obtain ⟨d0, d1, d2⟩ := HC.out _ _ hb
      clear hl
      have HSA := hid_ (samples_any l _ wr hsl)
      by_cases hlen : (l.length : Int) = wd * hi
      · have hne : ((l.length : Int) != wd * hi) = false := by simpa using hlen
        cases hq : allIn l 0 255 with
        | true =>
          have HZ : Hid (cutE l wd hi = 0) := hid_ (by unfold cutE; rw [if_pos HS0.out, if_pos hlen, hq]; rfl)
          rw [hq] at HSA
          clear hlen hq
          go_wp2_with (go_at_call 96; (with_reducible refine (HSA.out).mono ?_); rintro e w4 ⟨rfl, hx4⟩)
          go_roundw
          case rel => exact ⟨k + 1, by omega, by go_num, hid_ (take_all0 HT.out HLK.out HZ.out), hb.ext hx4, hx.trans hx4⟩
          case measure => simp [intOf]; omega
        | false =>
          have HZ : Hid (cutE l wd hi = 1) := hid_ (by unfold cutE; rw [if_pos HS0.out, if_pos hlen, hq]; rfl)
          have HF := hid_ (pic_first HT.out HLK.out HZ.out (by decide))
          rw [hq] at HSA
          clear hlen hq
          go_wp2_with (go_at_call 96; (with_reducible refine (HSA.out).mono ?_); rintro e w4 ⟨rfl, hx4⟩)
          go_ret
          rw [HF.out]
          exact ⟨rfl, hx.trans hx4⟩
      · have hne : ((l.length : Int) != wd * hi) = true := by simpa using hlen
        have HZ : Hid (cutE l wd hi = 4) := hid_ (by unfold cutE; rw [if_pos HS0.out, if_neg hlen])
        have HF := hid_ (pic_first HT.out HLK.out HZ.out (by decide))
        clear hlen
        go_wp2_with fail
        go_ret
        rw [HF.out]
        exact ⟨rfl, hx⟩
    · have ek : k = n := by omega
      have HF : Hid (firstE (L.map fun l => cutE l wd hi) = 0) := hid_ (firstE_all _ (fun y hy => by
        obtain ⟨x, hx, rfl⟩ := List.mem_map.1 hy
        exact HT.out x (by rw [ek, ← HL.out, List.take_length]; exact hx)))
      go_wp2_with fail
      go_ret
      rw [HF.out]
      exact ⟨rfl, hx⟩
theorem pchk_any (wd hi : Int) (L : List (List Int)) (A : Option Addr) (n c : Nat) (w : World) (hr : RowsS w A n c L) :
    Calls Try.prog 53 #[.agg (picV wd hi (.slice A n c))] w fun e w' => e = .returned (.int .i64 (picE wd hi L)) ∧ Ext w w' := by
  unfold picE
  by_cases h0 : sidesZ wd hi = 0
  · rw [if_pos h0]
    by_cases h : L.length = 1 ∨ L.length = 3
    · rw [if_pos h]
      rw [hr.len] at h
      rcases h with h | h
      · exact pchk_in1 wd hi L A n c w hr h0 h
      · exact pchk_in3 wd hi L A n c w hr h0 h
    · rw [if_neg h]
      exact pchk_parts wd hi L A n c w hr h0 h
  · rw [if_neg h0]
    exact pchk_sides wd hi L A n c w hr h0
end Go.Proofs.Ytkfdkkhhkciocaa
/- Loads of bytes and of slices of bytes. -/
namespace Go.Proofs.Ytkfdkkhhkciocaa
set_option linter.unusedVariables false
set_option linter.unusedSimpArgs false
open Go.RowKit
section
variable {o : Oper} {a : Act}
theorem run_loadSl (W : World) (p : Addr) (A : Option Addr) (n c : Nat) (h : W.cell? p = some (.slice A n c)) : (Instr.loadAt 38 (.pointer (some p))).run Try.prog W = .ok (.slice A n c) W := by
  go_simp
theorem run_loadU (W : World) (p : Addr) (z : Int) (h : W.cell? p = some (.int .u8 z)) : (Instr.loadAt 5 (.pointer (some p))).run Try.prog W = .ok (.int .u8 z) W := by
  go_simp
theorem ex_loadS {x : Operand} (ho : o.op = .load 38 x) {p : Addr} (hx : a.eval x = .pointer (some p)) {A : Option Addr} {n c : Nat} {w : World} (h : w.cell? p = some (.slice A n c)) : (execOp a.eval o).run Try.prog w = .ok (.value (.slice A n c)) w := by
  simp [execOp, ho, hx, run_loadSl w p A n c h]
theorem ex_loadU {x : Operand} (ho : o.op = .load 5 x) {p : Addr} (hx : a.eval x = .pointer (some p)) {z : Int} {w : World} (h : w.cell? p = some (.int .u8 z)) : (execOp a.eval o).run Try.prog w = .ok (.value (.int .u8 z)) w := by
  simp [execOp, ho, hx, run_loadU w p z h]
theorem run_conv8 (y : Nat) (h : y < 256) (W : World) : (convert 5 3 (.int .u8 (y : Int))).run Try.prog W = .ok (.int .i64 (y : Int)) W := by
  have e : IntKind.i64.wrap (y : Int) = (y : Int) := IntWalk.i64_in _ (by omega)
  go_simp
theorem ex_conv {P : Program} {x : Operand} {t u : TypeId} (ho : o.op = .convert t u x) {v v' : Value} (hx : a.eval x = v) (hr : ∀ w, (convert t u v).run P w = .ok v' w) (w : World) : (execOp a.eval o).run P w = .ok (.value v') w := by
  simp [execOp, ho, hx, hr]
end
theorem SL.upd0 {S : Nat → Prop} {w w' : World} {size n c : Nat} {A : Option Addr} {xs : List Value} (h : SL w size (.slice A n c) n xs) (hu : Upd S w w') (hS : 0 < n → ∀ ad, A = some ad → ¬ S ad.block) : SL w' size (.slice A n c) n xs := by
  by_cases h0 : 0 < n
  · exact h.upd hu (hS h0)
  · obtain ⟨A', c', e1, h1, h2, h3, h4⟩ := h
    exact ⟨A', c', e1, h1, h2, h3, fun hn => absurd hn h0⟩
theorem own_upd {S : Nat → Prop} {w w' : World} {base : Nat} {e : TypeId} {size n : Nat} {v : Value} {xs : List Value} (h : w.ownsRow base e size v n xs) (hu : Upd S w w') (hS : ∀ x, S x → x < base) : w'.ownsRow base e size v n xs := by
  obtain ⟨hl, hh⟩ := h
  refine ⟨hl, ?_⟩
  rcases hh with ⟨rfl, rfl⟩ | ⟨g, cap, cur, rfl, h1, hg, h2⟩
  · exact .inl ⟨rfl, rfl⟩
  · exact .inr ⟨g, cap, cur, rfl, h1, (hu.block g (Blk.lt (w := w) (t := e) (cs := cur) hg) (fun hx => by have := hS g hx; omega)).trans hg, h2⟩
end Go.Proofs.Ytkfdkkhhkciocaa
/- Blocks of a picture, in plain words. -/
namespace Go.Proofs.Ytkfdkkhhkciocaa
set_option linter.unusedVariables false
set_option linter.unusedSimpArgs false
open Go.RowKit
def blkF (b q : List Int) : List Int := (bothZ downF (waveR toC b).1 q 40000).1
theorem blkF_len (b q : List Int) (hq : q.length = 64) : (blkF b q).length = 64 := bothZ_len downF _ q 40000 (waveR_len toC b) hq
def part64 (X : List Int) (k : Nat) : List Int := (X.drop (k * 64)).take 64
def mapB (q X : List Int) : Nat → List Int
  | 0 => []
  | k + 1 => mapB q X k ++ blkF (part64 X k) q
def frameZ (q : List Int) (wd hi : Int) (R : List (List Int)) : List Int := R.flatMap fun l => mapB q (cutRZ l wd hi) (cutRN l wd hi)
def frameN (wd hi : Int) (R : List (List Int)) : Nat := (R.map fun l => cutRN l wd hi).sum
theorem mapB_len (q X : List Int) (hq : q.length = 64) : ∀ k, (mapB q X k).length = k * 64
  | 0 => rfl
  | k + 1 => by rw [mapB, List.length_append, mapB_len q X hq k, blkF_len _ _ hq]; omega
theorem frameZ_snoc (q : List Int) (wd hi : Int) (R : List (List Int)) (k : Nat) (l : List Int) (h : R[k]? = some l) : frameZ q wd hi (R.take (k + 1)) = frameZ q wd hi (R.take k) ++ mapB q (cutRZ l wd hi) (cutRN l wd hi) := by
  unfold frameZ
  rw [List.take_add_one, h, List.flatMap_append]
  simp
theorem frameN_snoc (wd hi : Int) (R : List (List Int)) (k : Nat) (l : List Int) (h : R[k]? = some l) : frameN wd hi (R.take (k + 1)) = frameN wd hi (R.take k) + cutRN l wd hi := by
  unfold frameN
  rw [List.take_add_one, h, List.map_append, List.sum_append]
  simp
theorem frameZ_len (q : List Int) (hq : q.length = 64) (wd hi : Int) : ∀ R : List (List Int), (frameZ q wd hi R).length = frameN wd hi R * 64
  | [] => rfl
  | l :: R => by
    have ih := frameZ_len q hq wd hi R
    unfold frameZ frameN at ih ⊢
    rw [List.flatMap_cons, List.length_append, ih, mapB_len q _ hq, List.map_cons, List.sum_cons, Nat.add_mul]
theorem cutRN_le (xs : List Int) (wd hi : Int) : cutRN xs wd hi ≤ 64 := by
  unfold cutRN
  split
  · rename_i h
    rcases cut_cases xs wd hi with ⟨-, hE⟩ | ⟨a, b, rfl, rfl, h1, h2, h3, h4, -, -⟩
    · rw [hE] at h; cases h
    · unfold cutN
      have : (a + 7) / 8 ≤ 8 := by omega
      have : (b + 7) / 8 ≤ 8 := by omega
      exact Nat.mul_le_mul (by simpa using ‹(a + 7) / 8 ≤ 8›) (by simpa using this)
  · omega
theorem frameN_le (wd hi : Int) : ∀ (R : List (List Int)) (k : Nat), frameN wd hi (R.take k) ≤ k * 64
  | _, 0 => by simp [frameN]
  | [], k + 1 => by simp [frameN]
  | l :: R, k + 1 => by
    have := frameN_le wd hi R k
    have := cutRN_le l wd hi
    unfold frameN at *
    rw [List.take_succ_cons, List.map_cons, List.sum_cons]
    omega
def tto : Int → Int → Int → Four := fun r g b => threeZ toM [r, g, b]
theorem tto_by : TurnsBy 49 tto := fun a b c w => tintTo_any a b c w
theorem rtto_by : TurnsBy 55 tto := fun a b c w => rtintTo_any a b c w
theorem goesTo : Goes Try.prog 49 := ⟨_, Try.func49, rfl, rfl⟩
theorem rgoesTo : Goes Try.prog 55 := ⟨_, Try.func55, rfl, rfl⟩
def TurnIs (L : List (List Int)) (w : World) (e : Ending) (w' : World) : Prop := ∃ B k d, e = .returned (.slice B k d) ∧ RowsS w' B k d L ∧ Ext w w'
theorem turned_any (f : FuncId) (t : Int → Int → Int → Four) (hf : TurnsBy f t) (hgo : Goes Try.prog f) (A : Option Addr) (n c : Nat) (L : List (List Int)) (N : Nat) (w : World) (hL : L.length = 1 ∨ L.length = 3) (hN : ∀ l ∈ L, l.length = N) (hb : N ≤ 1000000) (hr : RowsS w A n c L) :
    Calls Try.prog 48 #[.slice A n c, .func (.func f) #[] #[]] w (TurnIs (turnZ t L) w) := by
  have hn := hr.len
  rcases hL with h1 | h3
  · rw [turnZ_one t (by omega)]
    exact turned_one A n c L _ w hr (by omega) (by omega)
  · obtain ⟨a, b, cc, rfl⟩ := three_of h3
    obtain rfl : n = 3 := by rw [← hn]; rfl
    have ha := hN a (by simp)
    have hb' := hN b (by simp)
    have hc := hN cc (by simp)
    unfold turnZ
    dsimp only
    rw [ha]
    exact turned_three f t hf hgo A c a b cc N ha hb' hc hb w hr
theorem rturned_any (f : FuncId) (t : Int → Int → Int → Four) (hf : TurnsBy f t) (hgo : Goes Try.prog f) (A : Option Addr) (n c : Nat) (L : List (List Int)) (N : Nat) (w : World) (hL : L.length = 1 ∨ L.length = 3) (hN : ∀ l ∈ L, l.length = N) (hb : N ≤ 1000000) (hr : RowsS w A n c L) :
    Calls Try.prog 54 #[.slice A n c, .func (.func f) #[] #[]] w (TurnIs (turnZ t L) w) := by
  have hn := hr.len
  rcases hL with h1 | h3
  · rw [turnZ_one t (by omega)]
    exact rturned_one A n c L _ w hr (by omega)
  · obtain ⟨a, b, cc, rfl⟩ := three_of h3
    obtain rfl : n = 3 := by rw [← hn]; rfl
    have ha := hN a (by simp)
    have hb' := hN b (by simp)
    have hc := hN cc (by simp)
    unfold turnZ
    dsimp only
    rw [ha]
    exact rturned_three f t hf hgo A c a b cc N ha hb' hc hb w hr
theorem firstE_zero : ∀ (l : List Int), firstE l = 0 → ∀ e ∈ l, e = 0
  | [], _, _, h => by cases h
  | e :: r, h, x, hx => by
    unfold firstE at h
    by_cases h0 : e = 0
    · rw [if_pos h0] at h
      rcases List.mem_cons.1 hx with rfl | hx
      · exact h0
      · exact firstE_zero r h x hx
    · rw [if_neg h0] at h; exact absurd h h0
theorem picE_ok {wd hi : Int} {L : List (List Int)} (h : picE wd hi L = 0) : (L.length = 1 ∨ L.length = 3) ∧ ∃ N, N ≤ 1000000 ∧ ∀ l ∈ L, l.length = N := by
  unfold picE at h
  by_cases h0 : sidesZ wd hi = 0
  · rw [if_pos h0] at h
    by_cases h1 : L.length = 1 ∨ L.length = 3
    · rw [if_pos h1] at h
      obtain ⟨a, b, rfl, rfl, a1, a2, b1, b2⟩ := sides_ok h0
      refine ⟨h1, a * b, Nat.le_trans (Nat.mul_le_mul a2 b2) (by omega), fun l hl => ?_⟩
      have he := firstE_zero _ h (cutE l a b) (List.mem_map.2 ⟨l, hl, rfl⟩)
      rcases cut_cases l a b with ⟨-, hE⟩ | ⟨a', b', ea, eb, -, -, -, -, -, ⟨hl', hE⟩ | ⟨hl', hq, hE⟩ | ⟨hl', hq, hE⟩⟩
      · rw [hE] at he; cases he
      · rw [hE] at he; cases he
      · rw [hE] at he; cases he
      · obtain rfl : a = a' := by omega
        obtain rfl : b = b' := by omega
        exact hl'
    · rw [if_neg h1] at h; cases h
  · rw [if_neg h0] at h; cases h
theorem run_loadLL (W : World) (p : Addr) (A : Option Addr) (n c : Nat) (h : W.cell? p = some (.slice A n c)) : (Instr.loadAt 51 (.pointer (some p))).run Try.prog W = .ok (.slice A n c) W := by
  go_simp
theorem ex_loadLL {o : Oper} {a : Act} {x : Operand} (ho : o.op = .load 51 x) {p : Addr} (hx : a.eval x = .pointer (some p)) {A : Option Addr} {n c : Nat} {w : World} (h : w.cell? p = some (.slice A n c)) : (execOp a.eval o).run Try.prog w = .ok (.value (.slice A n c)) w := by
  simp [execOp, ho, hx, run_loadLL w p A n c h]
theorem zero48c : (Value.agg (bv zeros64)).cells.size = 64 := by rw [show (Value.agg (bv zeros64)).cells = bv zeros64 from rfl, bv_size]; rfl
/-- what Blocks answers: the error, how many blocks, the blocks -/
def framesZ (wd hi : Int) (L : List (List Int)) (q : List Int) : Int × Nat × List Int :=
  if picE wd hi L = 0 then (if allIn q 1 255 then (0, frameN wd hi (turnZ tto L), frameZ q wd hi (turnZ tto L)) else (1, 0, [])) else (picE wd hi L, 0, [])
def FrmIs (z : Int × Nat × List Int) (w : World) (e : Ending) (w' : World) : Prop := ∃ A c, e = .returned (.tuple #[.slice A z.2.1 c, .int .i64 z.1]) ∧ SL w' 64 (.slice A z.2.1 c) z.2.1 (ints z.2.2) ∧ Ext w w'
theorem FrmIs.err {z : Int × Nat × List Int} {w w' : World} {E : Int} (h : z = (E, 0, [])) (hx : Ext w w') : FrmIs z w (.returned (.tuple #[.slice none 0 0, .int .i64 E])) w' := by
  subst h
  exact ⟨none, 0, rfl, SL.nil w' 64, hx⟩
theorem turnZ_len (t : Int → Int → Int → Four) (L : List (List Int)) (h : L.length = 1 ∨ L.length = 3) : (turnZ t L).length ≤ 3 := by
  rcases h with h | h
  · rw [turnZ_one t (by omega)]; omega
  · obtain ⟨a, b, c, rfl⟩ := three_of h
    exact Nat.le_refl _
end Go.Proofs.Ytkfdkkhhkciocaa
/- frame.Blocks. Printed by wip/gen/mkfrm.py. -/
namespace Go.Proofs.Ytkfdkkhhkciocaa
set_option linter.unusedVariables false
set_option linter.unusedSimpArgs false
open Go.RowKit
set_option maxRecDepth 20000 in
set_option maxHeartbeats 4000000 in
theorem fblocks_bad (wd hi : Int) (L : List (List Int)) (A : Option Addr) (n c : Nat) (q : List Int) (hq : q.length = 64) (w : World) (hr : RowsS w A n c L) (hE : picE wd hi L ≠ 0) :
    Calls Try.prog 18 #[.agg (picV wd hi (.slice A n c)), .agg (bv q)] w (FrmIs (framesZ wd hi L q) w) := by
  have HC := hid_ (fun W (hx : Ext w W) => fchk_any wd hi L A n c W (hr.ext hx))
  have HE : Hid (∀ W, Ext w W → FrmIs (framesZ wd hi L q) w (.returned (.tuple #[.slice none 0 0, .int .i64 (picE wd hi L)])) W) := hid_ (fun W hx => FrmIs.err (by unfold framesZ; rw [if_neg hE]) hx)
  generalize framesZ wd hi L q = fz at *
  generalize picE wd hi L = E at *
  have hps := hid_ (picV_size wd hi (.slice A n c))
  generalize picV wd hi (.slice A n c) = pv at *
  generalize bv q = qv at *
  clear hr
  go_enter Try.func18, Try.ntmps18
  go_wp2_with (first
    | (show wpList _ _ _ (⟨some 2, _, _, _, _, _⟩ :: _) _ _; refine wpList_box_abs rfl 53 (.tmp 0) rfl pv rfl ?_; intro w1 g1 hb1 hx1 hg1)
    | (show wpList _ _ _ (⟨some 3, _, _, _, _, _⟩ :: _) _ _; refine wpList_box_abs rfl 24 (.tmp 1) rfl qv rfl ?_; intro w2 g2 hb2 hx2 hg2; have hb12 := hb1.ext hx2; have hx12 := hx1.trans hx2)
    | (show wpList _ _ _ (⟨some 14, _, _, _, _, _⟩ :: _) _ _; refine wpList_load_blk rfl 53 (.tmp 2) rfl g1 rfl hb12 _ Try.underlying53 rfl 3 sizePic hps.out ?_)
    | (go_at_call 21; (with_reducible refine (HC.out _ hx12).mono ?_); rintro e w3 ⟨rfl, hx3⟩)
    | (show wpList _ _ _ (⟨some 17, _, _, _, _, _⟩ :: _) _ _; refine wl_run rfl (.bool false) (ex_eql rfl rfl rfl (by simpa using hE)) ?_)
    | (show wpList _ _ _ (⟨some 21, _, _, _, _, _⟩ :: _) _ _; refine wl_run rfl (.bool true) (ex_neq rfl rfl rfl (by simpa using hE)) ?_))
  go_ret2
  exact HE.out _ (hx12.trans hx3)
set_option maxRecDepth 20000 in
set_option maxHeartbeats 4000000 in
theorem fblocks_quant (wd hi : Int) (L : List (List Int)) (A : Option Addr) (n c : Nat) (q : List Int) (hq : q.length = 64) (w : World) (hr : RowsS w A n c L) (hE : picE wd hi L = 0) (hqq : allIn q 1 255 = false) :
    Calls Try.prog 18 #[.agg (picV wd hi (.slice A n c)), .agg (bv q)] w (FrmIs (framesZ wd hi L q) w) := by
  have HC := hid_ (fun W (hx : Ext w W) => fchk_any wd hi L A n c W (hr.ext hx))
  rw [hE] at HC
  have HE : Hid (∀ W, Ext w W → FrmIs (framesZ wd hi L q) w (.returned (.tuple #[.slice none 0 0, .int .i64 1])) W) := hid_ (fun W hx => FrmIs.err (by unfold framesZ; rw [if_pos hE, hqq]; rfl) hx)
  have HQ := hid_ (fun W => qcheck_any q W hq)
  rw [hqq, if_neg (by decide)] at HQ
  generalize framesZ wd hi L q = fz at *
  have hps := hid_ (picV_size wd hi (.slice A n c))
  have hqs := hid_ ((bv_size q).trans hq)
  generalize picV wd hi (.slice A n c) = pv at *
  generalize bv q = qv at *
  clear hr hE
  go_enter Try.func18, Try.ntmps18
  go_wp2_with (first
    | (show wpList _ _ _ (⟨some 2, _, _, _, _, _⟩ :: _) _ _; refine wpList_box_abs rfl 53 (.tmp 0) rfl pv rfl ?_; intro w1 g1 hb1 hx1 hg1)
    | (show wpList _ _ _ (⟨some 3, _, _, _, _, _⟩ :: _) _ _; refine wpList_box_abs rfl 24 (.tmp 1) rfl qv rfl ?_; intro w2 g2 hb2 hx2 hg2; have hb12 := hb1.ext hx2; have hx12 := hx1.trans hx2)
    | (show wpList _ _ _ (⟨some 14, _, _, _, _, _⟩ :: _) _ _; refine wpList_load_blk rfl 53 (.tmp 2) rfl g1 rfl hb12 _ Try.underlying53 rfl 3 sizePic hps.out ?_)
    | (go_at_call 21; (with_reducible refine (HC.out _ hx12).mono ?_); rintro e w3 ⟨rfl, hx3⟩; have hb23 := hb2.ext hx3; have hx13 := hx12.trans hx3)
    | (show wpList _ _ _ (⟨some 18, _, _, _, _, _⟩ :: _) _ _; refine wpList_load_blk rfl 24 (.tmp 3) rfl g2 rfl hb23 _ Try.underlying24 rfl 64 size48 hqs.out ?_)
    | (go_at_call 46; (with_reducible refine (HQ.out _).mono ?_); rintro e w4 ⟨rfl, hx4⟩))
  go_ret2
  exact HE.out _ (hx13.trans hx4)
set_option maxRecDepth 20000 in
set_option maxHeartbeats 16000000 in
theorem fblocks_good (wd hi : Int) (L : List (List Int)) (A : Option Addr) (n c : Nat) (q : List Int) (hq : q.length = 64) (w : World) (hr : RowsS w A n c L) (hE : picE wd hi L = 0) (hqq : allIn q 1 255 = true) :
    Calls Try.prog 18 #[.agg (picV wd hi (.slice A n c)), .agg (bv q)] w (FrmIs (framesZ wd hi L q) w) := by
  have HC := hid_ (fun W (hx : Ext w W) => fchk_any wd hi L A n c W (hr.ext hx))
  rw [hE] at HC
  obtain ⟨hL, N, hN, hNl⟩ := picE_ok hE
  have HT := hid_ (fun W (hx : Ext w W) => turned_any 49 tto tto_by goesTo A n c L N W hL hNl hN (hr.ext hx))
  have hR3 := turnZ_len tto L hL
  have HZ : Hid (framesZ wd hi L q = (0, frameN wd hi (turnZ tto L), frameZ q wd hi (turnZ tto L))) := hid_ (by unfold framesZ; rw [if_pos hE, hqq]; rfl)
  have HQ := hid_ (fun W => qcheck_any q W hq)
  rw [hqq, if_pos rfl] at HQ
  unfold TurnIs at HT
  have HCU := hid_ (fun (l : List Int) v W (h : SL W 1 v l.length (ints l)) => cut_anyF l v wd hi W h)
  unfold CutFr at HCU
  have HWA := hid_ (fun (b : List Int) W (h : b.length = 64) => waveTo_any b W h)
  have HDW := hid_ (fun (b : List Int) W (h : b.length = 64) => down_any b q W h hq)
  have HQL := hid_ hq
  generalize turnZ tto L = R at *
  generalize framesZ wd hi L q = fz at *
  have hps := hid_ (picV_size wd hi (.slice A n c))
  have hqs := hid_ ((bv_size q).trans hq)
  have HPC := hid_ (fun (W : World) g (h : Blk W g 53 (picV wd hi (.slice A n c))) => pic_cells h)
  generalize picV wd hi (.slice A n c) = pv at *
  have HQV : Hid (bv q = bv q) := hid_ rfl
  generalize hqv : bv q = qv at *
  clear hr hE hL hNl hN HQV
  go_enter Try.func18, Try.ntmps18
  go_upto_region 8 with (first
    | (show wpList _ _ _ (⟨some 2, _, _, _, _, _⟩ :: _) _ _; refine wpList_box_abs rfl 53 (.tmp 0) rfl pv rfl ?_; intro w1 g1 hb1 hx1 hg1)
    | (show wpList _ _ _ (⟨some 3, _, _, _, _, _⟩ :: _) _ _; refine wpList_box_abs rfl 24 (.tmp 1) rfl qv rfl ?_; intro w2 g2 hb2 hx2 hg2; have hb12 := hb1.ext hx2; have hx12 := hx1.trans hx2)
    | (show wpList _ _ _ (⟨some 14, _, _, _, _, _⟩ :: _) _ _; refine wpList_load_blk rfl 53 (.tmp 2) rfl g1 rfl hb12 _ Try.underlying53 rfl 3 sizePic hps.out ?_)
    | (go_at_call 21; (with_reducible refine (HC.out _ hx12).mono ?_); rintro e w3 ⟨rfl, hx3⟩; have hb13 := hb12.ext hx3; have hb23 := hb2.ext hx3; have hx13 := hx12.trans hx3)
    | (show wpList _ _ _ (⟨some 18, _, _, _, _, _⟩ :: _) _ _; refine wpList_load_blk rfl 24 (.tmp 3) rfl g2 rfl hb23 _ Try.underlying24 rfl 64 size48 hqs.out ?_)
    | (go_at_call 46; (with_reducible refine (HQ.out _).mono ?_); rintro e w4 ⟨rfl, hx4⟩; have hb14 := hb13.ext hx4; have hb24 := hb23.ext hx4; have hx14 := hx13.trans hx4; have hpc := HPC.out _ _ hb14)
    | (show wpList _ _ _ (⟨some 24, _, _, _, _, _⟩ :: _) _ _; refine wl_read rfl (.slice A n c) (ex_loadLL rfl rfl hpc.2.2) ?_)
    | (go_at_call 48; (with_reducible refine (HT.out _ hx14).mono ?_); rintro e w5 ⟨TA, m, tc, rfl, hrows, hx5⟩; have hb15 := hb14.ext hx5; have hb25 := hb24.ext hx5; have hx15 := hx14.trans hx5))
  have hRm := hrows.len
  have HRW := hid_ hrows
  have hm3 : m ≤ 3 := by omega
  have own0 : w5.ownsRow w5.heap.size 24 64 (.slice none 0 0) 0 (ints (frameZ q wd hi (R.take 0))) := own_nil _ _ _ _
  have hg1' : g1 < w5.heap.size := hb15.lt
  have hg2' : g2 < w5.heap.size := hb25.lt
  clear hrows hpc
  go_loopw [7, 27] (fun ov iv wr => ∃ (k : Nat) (OA : Option Addr) (on oc : Nat), k ≤ m ∧ iv = .int .i64 (k : Int) ∧ ov = .slice OA on oc ∧ Hid (on = frameN wd hi (R.take k)) ∧ wr.ownsRow w5.heap.size 24 64 (.slice OA on oc) on (ints (frameZ q wd hi (R.take k))) ∧ Blk wr g1 53 pv ∧ Blk wr g2 24 qv ∧ Ext w5 wr ∧ Ext w wr) (fun _ i _ => m - (intOf i).toNat)
  case atStart => exact ⟨0, none, 0, 0, by omega, rfl, rfl, hid_ rfl, own0, hb15, hb25, Ext.refl _, hx15⟩
  case round =>
    clear own0 hb15 hb25 hx15
    obtain ⟨k, OA, on, oc, hk, rfl, rfl, hon, ho, hb1, hb2, hx5r, hx⟩ := hrel
    by_cases hkm : k < m
    · obtain ⟨ad, l, LA, ld, rfl, hRk, hab, hcell, hsl⟩ := HRW.out.get hkm
      have hcl : wr.cell? (ad.add (k * 1)) = some (.slice LA l.length ld) := by rw [Nat.mul_one, (hx5r.cell (by rw [block_of_add]; exact hab)).trans hcell]
      have hsl' := hsl.ext hx5r
      have hfn := hid_ (frameN_snoc wd hi R k l hRk)
      have hfz := hid_ (frameZ_snoc q wd hi R k l hRk)
      have hon64 : on ≤ 192 := by have := frameN_le wd hi R k; rw [← hon.out] at this; omega
      have hcle := cutRN_le l wd hi
      have HCl := hid_ (HCU.out l (.slice LA l.length ld) wr hsl')
      have hcz := cutRZ_len l wd hi
      have hpc := HPC.out _ _ hb1
      generalize cutRN l wd hi = cn at *
      generalize cutRZ l wd hi = CZ at *
      generalize l.length = ll at *
      generalize cutE l wd hi = ce at *
      clear hcell hsl hsl' hRk
      go_upto_region 12 with (first
        | (show wpList _ _ _ (⟨some 29, _, _, _, _, _⟩ :: _) _ _; refine wl_run rfl (.pointer (some (ad.add (k * 1)))) (ex_ixSl (i := k) Try.underlying51 sizeRow rfl rfl rfl hkm) ?_)
        | (show wpList _ _ _ (⟨some 30, _, _, _, _, _⟩ :: _) _ _; refine wl_read rfl (.slice LA ll ld) (ex_loadL rfl rfl hcl) ?_)
        | (show wpList _ _ _ (⟨some 34, _, _, _, _, _⟩ :: _) _ _; refine wl_read rfl (.int .i64 wd) (ex_loadI rfl rfl hpc.1) ?_)
        | (show wpList _ _ _ (⟨some 36, _, _, _, _, _⟩ :: _) _ _; refine wl_read rfl (.int .i64 hi) (ex_loadI rfl rfl hpc.2.1) ?_)
        | (go_at_call 50; (with_reducible refine HCl.out.mono ?_); rintro e w6 ⟨CA, cc, rfl, hcs, hx6, hfr⟩; have ho6 := own_keep ho hx6; have hb16 := hb1.ext hx6; have hb26 := hb2.ext hx6; have hx56 := hx5r.trans hx6; have hx06 := hx.trans hx6))
      have hne0 : ∀ ad, CA = some ad → (Value.slice OA (on + 0) oc).ownBlock ≠ some ad.block := fun ad e q => by have := hfr ad e; have := (ho.lt ad.block (by simpa using q)).2; omega
      have own1 : w6.ownsRow w5.heap.size 24 64 (.slice OA on oc) (on + 0) (ints (frameZ q wd hi (R.take k) ++ mapB q CZ 0)) := by simpa [mapB] using ho6
      clear ho hb1 hb2 hx hcl hpc
      go_loopw [7, 42] (fun ov iv wr => ∃ (j : Nat) (OA : Option Addr) (oc : Nat), j ≤ cn ∧ iv = .int .i64 (j : Int) ∧ ov = .slice OA (on + j) oc ∧ wr.ownsRow w5.heap.size 24 64 (.slice OA (on + j) oc) (on + j) (ints (frameZ q wd hi (R.take k) ++ mapB q CZ j)) ∧ SL wr 64 (.slice CA cn cc) cn (ints CZ) ∧ (∀ ad, CA = some ad → (Value.slice OA (on + j) oc).ownBlock ≠ some ad.block) ∧ Blk wr g1 53 pv ∧ Blk wr g2 24 qv ∧ Ext w5 wr ∧ Ext w wr) (fun _ i _ => cn - (intOf i).toNat)
      case atStart => exact ⟨0, OA, oc, by omega, rfl, rfl, own1, hcs, hne0, hb16, hb26, hx56, hx06⟩
      case round =>
        clear own1 ho6 hb16 hb26 hx06 hx56 hx5r hcs hne0
        obtain ⟨j, OA, oc, hj, rfl, rfl, ho, hcs, hne, hb1, hb2, hx5r, hx⟩ := hrel
        by_cases hjc : j < cn
        · obtain ⟨bd, hbd, hbb, hca⟩ := hcs.part hjc
          have hca' : CellsAt wr (bd.add (j * 64)) (ints (part64 CZ j)) := by
            have e : ((ints CZ).drop (j * 64)).take 64 = ints (part64 CZ j) := by unfold ints part64; rw [List.map_drop.symm, List.map_take.symm]
            rw [← e]
            exact hca
          obtain rfl := hbd
          have hpl : (part64 CZ j).length = 64 := by unfold part64; rw [List.length_take, List.length_drop, hcz]; omega
          have HMB : Hid (mapB q CZ (j + 1) = mapB q CZ j ++ blkF (part64 CZ j) q) := hid_ (by rw [mapB])
          have HBF : Hid (blkF (part64 CZ j) q = (bothZ downF (waveR toC (part64 CZ j)).1 q 40000).1) := hid_ rfl
          have hBL := blkF_len (part64 CZ j) q HQL.out
          generalize part64 CZ j = P at *
          have HW := hid_ (fun W => HWA.out P W hpl)
          have hwl := waveR_len toC P
          have HD := hid_ (fun W => HDW.out (waveR toC P).1 W hwl)
          rw [← HBF.out] at HD
          generalize (waveR toC P).1 = P2 at *
          generalize (waveR toC P).2 = ew at *
          generalize (bothZ downF P2 q 40000).2 = ed at *
          generalize hP3 : blkF P q = P3 at *
          clear hca hP3 HBF
          have s1 := hid_ ((bv_size P).trans hpl)
          have s2 := hid_ ((bv_size P2).trans hwl)
          have s3 := hid_ ((bv_size P3).trans hBL)
          have o1 := hid_ (bv_one P)
          have o2 := hid_ (bv_one P2)
          have o3 := hid_ (bv_one P3)
          have hipl : (ints P).length = 64 := by rw [ints_len, hpl]
          have hzs : Hid ((Value.agg (bv zeros64)).cells.size = 64) := hid_ zero48c
          go_wp2_with (first
            | (show wpList _ _ _ (⟨some 44, _, _, _, _, _⟩ :: _) _ _; refine wl_run rfl (.pointer (some (bd.add (j * 64)))) (ex_ixSl (i := j) Try.underlying29 size48 rfl rfl rfl hjc) ?_)
            | (show wpList _ _ _ (⟨some 45, _, _, _, _, _⟩ :: _) _ _; refine wpList_load_any (by rfl) 24 (.tmp 44) rfl (bd.add (j * 64)) rfl (ints P) _ hca' Try.underlying24 rfl (by rw [hipl]; exact size48) ?_)
            | (show wpList _ _ _ (⟨some 13, _, _, _, _, _⟩ :: _) _ _; refine wpList_alloc_abs' rfl (some 13) rfl 24 rfl _ zero48 ?_; intro w8 g8 hb8 hx8 hg8; have h18 := hb1.ext hx8; have h28 := hb2.ext hx8; have ho8 := own_keep ho hx8)
            | (show wpList _ _ _ (⟨none, .store _ (.tmp 13) (.tmp 45), _, _, _, _⟩ :: _) _ _; refine wpList_store_blk rfl 24 (.tmp 13) (.tmp 45) rfl g8 (bv P) rfl rfl hb8 64 size48 s1.out hzs.out o1.out ?_; intro w9 hb9 hg9; have hx9 := hx8.grown hg9 hg8)
            | (show wpList _ _ _ (⟨some 47, _, _, _, _, _⟩ :: _) _ _; refine wpList_load_blk rfl 24 (.tmp 13) rfl g8 rfl hb9 _ Try.underlying24 rfl 64 size48 s1.out ?_)
            | (go_at_call 51; (with_reducible refine (HW.out _).mono ?_); rintro e w10 ⟨rfl, hx10⟩; have hb10 := hb9.ext hx10; have hxa := hx9.trans hx10)
            | (show wpList _ _ _ (⟨none, .store _ (.tmp 13) (.tmp 49), _, _, _, _⟩ :: _) _ _; refine wpList_store_blk rfl 24 (.tmp 13) (.tmp 49) rfl g8 (bv P2) rfl rfl hb10 64 size48 s2.out s1.out o2.out ?_; intro w11 hb11 hg11; have hxb := hxa.grown hg11 hg8; have hq11 := hb2.ext hxb)
            | (show wpList _ _ _ (⟨some 52, _, _, _, _, _⟩ :: _) _ _; refine wpList_load_blk rfl 24 (.tmp 13) rfl g8 rfl hb11 _ Try.underlying24 rfl 64 size48 s2.out ?_)
            | (show wpList _ _ _ (⟨some 53, _, _, _, _, _⟩ :: _) _ _; refine wpList_load_blk rfl 24 (.tmp 3) rfl g2 rfl hq11 _ Try.underlying24 rfl 64 size48 hqs.out ?_)
            | (go_at_call 52; (with_reducible refine (HD.out _).mono ?_); rintro e w12 ⟨rfl, hx12'⟩; have hb12' := hb11.ext hx12'; have hxc := hxb.trans hx12')
            | (show wpList _ _ _ (⟨none, .store _ (.tmp 13) (.tmp 55), _, _, _, _⟩ :: _) _ _; refine wpList_store_blk rfl 24 (.tmp 13) (.tmp 55) rfl g8 (bv P3) rfl rfl hb12' 64 size48 s3.out s2.out o3.out ?_; intro w13 hb13' hg13; have hxd := hxc.grown hg13 hg8)
            | (show wpList _ _ _ (⟨some 58, _, _, _, _, _⟩ :: _) _ _; refine wpList_load_blk rfl 24 (.tmp 13) rfl g8 rfl hb13' _ Try.underlying24 rfl 64 size48 s3.out ?_)
            | (show wpList _ _ _ (⟨some 59, _, _, _, _, _⟩ :: _) _ _; refine wpList_lit1 rfl 29 24 (.tmp 58) rfl (some 59) rfl Try.underlying29 64 size48 zero48' (.agg (bv P3)) rfl s3.out (by omega) (by omega) ?_; intro w14 g14 hb14' hx14' hg14; have hxe := hxd.trans hx14'; have ho14 := own_keep ho hxe)
            | (show wpList _ _ _ (⟨some 60, _, _, _, _, _⟩ :: _) _ _; refine wpList_append_slf elt_blk rfl (.tmp 57) (.tmp 59) rfl w5.heap.size (.slice OA (on + j) oc) (on + j) (ints (frameZ q wd hi (R.take k) ++ mapB q CZ j)) rfl ho14 _ 1 (ints P3) rfl (blk_sl1 hb14' hBL) (ints_one_mem P3) (by omega) (by omega) (hx5r.trans hxe).size ?_; intro A15 c15 w15 ho15 hg15 hr15; have hug := upd_grown hg15))
          have hlo := ho14.lt
          have hBx : ∀ y, (Value.slice OA (on + j) oc).ownBlock = some y → w5.heap.size ≤ y := fun y hy => (hlo y hy).1
          have hb1z := hb1.ext hxe
          have hb2z := hb2.ext hxe
          go_roundw
          case rel =>
            refine ⟨j + 1, A15, c15, by omega, by go_num, by rw [Nat.add_assoc], ?_, ?_⟩
            · rw [HMB.out, ← List.append_assoc, ints_app]
              exact ho15
            · have hx5z := Below.grown (hx5r.trans hxe) hg15 (hx5r.trans hxe).size (fun y hy => hBx y hy)
              have hxz := Below.grown (hx.trans hxe) hg15 (hx.trans hxe).size (fun y hy => by have := hBx y hy; have := hx5r.size; have := hg1'; omega)
              refine ⟨(hcs.ext hxe).upd0 hug (fun _ ad' e q => hne ad' e q), fun ad' e q => ?_, hug.blk hb1z (fun q => by have := hBx _ q; have := hg1'; omega), hug.blk hb2z (fun q => by have := hBx _ q; have := hg2'; omega), hx5z, hxz⟩
              rw [own_map2] at q
              rcases hr15 with h | h
              · rw [h] at q
                exact hne ad' e q
              · rw [h] at q
                injection q with q
                injection e with e
                subst e
                have := hxe.size
                omega
          case measure => simp [intOf]; omega
        · obtain rfl : j = cn := by omega
          go_wp2_with fail
          go_roundw
          case rel => exact ⟨k + 1, OA, on + j, oc, by omega, by go_num, rfl, hid_ (by rw [hfn.out, hon.out]), by rw [hfz.out]; exact ho, hb1, hb2, hx5r, hx⟩
          case measure => simp [intOf]; omega
    · obtain rfl : k = m := by omega
      rw [← hRm, List.take_length] at hon ho
      go_wp2_with fail
      go_ret2
      rw [HZ.out]
      refine ⟨OA, oc, ?_, ?_, hx⟩
      · rw [← hon.out]; rfl
      · show SL wr 64 (.slice OA (frameN wd hi R) oc) (frameN wd hi R) _
        rw [← hon.out]
        exact (own_out ho).1
end Go.Proofs.Ytkfdkkhhkciocaa
