/- bits.Reader: Left, Get, NewReader. -/
import Derived.Test.YtbnjapgmpjkooaaReadMath
import Derived.Test.YtbnjapgmpjkooaaUpd
namespace Go.Proofs.Ytbnjapgmpjkooaa
set_option linter.unusedVariables false
set_option linter.unusedSimpArgs false
open Go.RowKit
section
variable {o : Oper} {a : Act}
theorem run_loadSl (W : World) (p : Addr) (A : Option Addr) (n c : Nat) (h : W.cell? p = some (.slice A n c)) : (Instr.loadAt 23 (.pointer (some p))).run Try.prog W = .ok (.slice A n c) W := by
  go_simp
theorem run_loadU (W : World) (p : Addr) (z : Int) (h : W.cell? p = some (.int .u8 z)) : (Instr.loadAt 5 (.pointer (some p))).run Try.prog W = .ok (.int .u8 z) W := by
  go_simp
theorem ex_loadS {x : Operand} (ho : o.op = .load 23 x) {p : Addr} (hx : a.eval x = .pointer (some p)) {A : Option Addr} {n c : Nat} {w : World} (h : w.cell? p = some (.slice A n c)) : (execOp a.eval o).run Try.prog w = .ok (.value (.slice A n c)) w := by
  simp [execOp, ho, hx, run_loadSl w p A n c h]
theorem ex_loadU {x : Operand} (ho : o.op = .load 5 x) {p : Addr} (hx : a.eval x = .pointer (some p)) {z : Int} {w : World} (h : w.cell? p = some (.int .u8 z)) : (execOp a.eval o).run Try.prog w = .ok (.value (.int .u8 z)) w := by
  simp [execOp, ho, hx, run_loadU w p z h]
theorem run_conv8 (y : Nat) (h : y < 256) (W : World) : (convert 5 3 (.int .u8 (y : Int))).run Try.prog W = .ok (.int .i64 (y : Int)) W := by
  have e : IntKind.i64.wrap (y : Int) = (y : Int) := IntWalk.i64_in _ (by omega)
  go_simp
theorem ex_conv {P : Program} {x : Operand} {t u : TypeId} (ho : o.op = .convert t u x) {v v' : Value} (hx : a.eval x = v) (hr : ∀ w, (convert t u v).run P w = .ok v' w) (w : World) : (execOp a.eval o).run P w = .ok (.value v') w := by
  simp [execOp, ho, hx, hr]
end
/-- a reader at bit p of the bytes bs -/
def RdS (w : World) (gr : Nat) (A : Option Addr) (n c p : Nat) (bs : List Nat) : Prop :=
  Blk w gr 82 #[.slice A n c, .int .i64 (p : Int)] ∧ SL w 1 (.slice A n c) n (bytesV bs) ∧ bs.length = n ∧ (0 < n → ∀ ad, A = some ad → ad.block < gr) ∧ (∀ b ∈ bs, b < 256) ∧ n ≤ 100000000000 ∧ p ≤ 8 * n
theorem RdS.cells {w : World} {gr : Nat} {A : Option Addr} {n c p : Nat} {bs : List Nat} (h : RdS w gr A n c p bs) : w.cell? ⟨gr, 0, none⟩ = some (.slice A n c) ∧ w.cell? ⟨gr, 1, none⟩ = some (.int .i64 (p : Int)) := by
  have h0 := h.1.cell 0
  have h1 := h.1.cell 1
  exact ⟨h0, h1⟩
theorem RdS.ext {w w' : World} {gr : Nat} {A : Option Addr} {n c p : Nat} {bs : List Nat} (h : RdS w gr A n c p bs) (hx : Ext w w') : RdS w' gr A n c p bs :=
  ⟨h.1.ext hx, h.2.1.ext hx, h.2.2⟩
theorem SL.upd0 {S : Nat → Prop} {w w' : World} {size n c : Nat} {A : Option Addr} {xs : List Value} (h : SL w size (.slice A n c) n xs) (hu : Upd S w w') (hS : 0 < n → ∀ ad, A = some ad → ¬ S ad.block) : SL w' size (.slice A n c) n xs := by
  by_cases h0 : 0 < n
  · exact h.upd hu (hS h0)
  · obtain ⟨A', c', e1, h1, h2, h3, h4⟩ := h
    exact ⟨A', c', e1, h1, h2, h3, fun hn => absurd hn h0⟩
theorem RdS.upd {S : Nat → Prop} {w w' : World} {gr : Nat} {A : Option Addr} {n c p : Nat} {bs : List Nat} (h : RdS w gr A n c p bs) (hu : Upd S w w') (hS : ∀ x, S x → gr < x) : RdS w' gr A n c p bs :=
  ⟨hu.blk h.1 (fun e => by have := hS _ e; omega), h.2.1.upd0 hu (fun h0 ad e e2 => by have := hS _ e2; have := h.2.2.2.1 h0 ad e; omega), h.2.2⟩
theorem own_upd {S : Nat → Prop} {w w' : World} {base : Nat} {e : TypeId} {size n : Nat} {v : Value} {xs : List Value} (h : w.ownsRow base e size v n xs) (hu : Upd S w w') (hS : ∀ x, S x → x < base) : w'.ownsRow base e size v n xs := by
  obtain ⟨hl, hh⟩ := h
  refine ⟨hl, ?_⟩
  rcases hh with ⟨rfl, rfl⟩ | ⟨g, cap, cur, rfl, h1, hg, h2⟩
  · exact .inl ⟨rfl, rfl⟩
  · exact .inr ⟨g, cap, cur, rfl, h1, (hu.block g (Blk.lt (w := w) (t := e) (cs := cur) hg) (fun hx => by have := hS g hx; omega)).trans hg, h2⟩
theorem RdS.drew {w : World} {gr : Nat} {A : Option Addr} {n c p : Nat} {bs : List Nat} (h : RdS w gr A n c p bs) : RdS w.drew gr A n c p bs := h
set_option maxRecDepth 20000 in
set_option maxHeartbeats 1000000 in
theorem left_any (gr : Nat) (A : Option Addr) (n c p : Nat) (bs : List Nat) (w : World) (h : RdS w gr A n c p bs) :
    Calls Try.prog 40 #[.pointer (some ⟨gr, 0, none⟩)] w fun e w' => e = .returned (.int .i64 ((8 * n - p : Nat) : Int)) ∧ Ext w w' := by
  have hn : n ≤ 100000000000 := h.2.2.2.2.2.1
  have hp : p ≤ 8 * n := h.2.2.2.2.2.2
  have HC0 : ∀ W, Ext w.drew W → W.cell? ⟨gr, 0, none⟩ = some (.slice A n c) := fun W hx => (h.drew.ext hx).cells.1
  have HC1 : ∀ W, Ext w.drew W → W.cell? ⟨gr, 1, none⟩ = some (.int .i64 (p : Int)) := fun W hx => (h.drew.ext hx).cells.2
  go_enter Try.func40, Try.ntmps40
  go_wp2_with fail
  refine wp_region_lx later_ext (by kernel_rfl) (by kernel_rfl) ?_
  refine lx_run (by rfl) (.pointer (some ⟨gr, 0, none⟩)) (ex_move rfl rfl) ?_
  simp only [Act.put, List.setIfInBounds_toArray, List.set_cons_succ, List.set_cons_zero]
  refine lx_run (by rfl) (.pointer (some ⟨gr, 0, none⟩)) (ex_nil rfl rfl) ?_
  simp only [Act.put, List.setIfInBounds_toArray, List.set_cons_succ, List.set_cons_zero]
  refine lx_run (by rfl) (.pointer (some ⟨gr, 0, none⟩)) (fun W => by go_simp) ?_
  simp only [Act.put, List.setIfInBounds_toArray, List.set_cons_succ, List.set_cons_zero]
  refine lx_read (by rfl) (.slice A n c) (fun W hW => ex_loadS rfl rfl (HC0 W hW)) ?_
  simp only [Act.put, List.setIfInBounds_toArray, List.set_cons_succ, List.set_cons_zero]
  refine lx_run (by rfl) (.int .i64 ((n : Nat) : Int)) (fun W => by go_simp) ?_
  simp only [Act.put, List.setIfInBounds_toArray, List.set_cons_succ, List.set_cons_zero]
  refine lx_run (by rfl) (.int .i64 ((8 * n : Nat) : Int)) (ex_mulN (i := 8) (d := n) rfl rfl rfl (by omega)) ?_
  simp only [Act.put, List.setIfInBounds_toArray, List.set_cons_succ, List.set_cons_zero]
  refine lx_run (by rfl) (.pointer (some ⟨gr, 0, none⟩)) (ex_move rfl rfl) ?_
  simp only [Act.put, List.setIfInBounds_toArray, List.set_cons_succ, List.set_cons_zero]
  refine lx_run (by rfl) (.pointer (some ⟨gr, 0, none⟩)) (ex_nil rfl rfl) ?_
  simp only [Act.put, List.setIfInBounds_toArray, List.set_cons_succ, List.set_cons_zero]
  refine lx_run (by rfl) (.pointer (some ⟨gr, 1, none⟩)) (fun W => by go_simp) ?_
  simp only [Act.put, List.setIfInBounds_toArray, List.set_cons_succ, List.set_cons_zero]
  refine lx_read (by rfl) (.int .i64 ((p : Nat) : Int)) (fun W hW => ex_loadI rfl rfl (HC1 W hW)) ?_
  simp only [Act.put, List.setIfInBounds_toArray, List.set_cons_succ, List.set_cons_zero]
  refine lx_run (by rfl) (.int .i64 (((8 * n) - p : Nat) : Int)) (ex_subN (i := 8 * n) (d := p) rfl rfl rfl (by omega) (by omega)) ?_
  simp only [Act.put, List.setIfInBounds_toArray, List.set_cons_succ, List.set_cons_zero]
  refine lx_run (by rfl) (.int .i64 (((8 * n) - p : Nat) : Int)) (ex_assign rfl rfl) ?_
  simp only [Act.put, List.setIfInBounds_toArray, List.set_cons_succ, List.set_cons_zero]
  refine lx_nil ?_
  intro w9 hx9
  go_wp2_with fail
  go_ret
  exact ⟨rfl, (Ext.refl w).drew.trans hx9⟩
theorem bytes_at {bs : List Nat} {k : Nat} {u : Value} (h : (bytesV bs)[k]? = some u) : ∃ hk : k < bs.length, u = .int .u8 ((bs[k] : Nat) : Int) := by
  unfold bytesV at h
  rw [List.getElem?_map] at h
  obtain ⟨z, hz, rfl⟩ := Option.map_eq_some_iff.1 h
  obtain ⟨hk, rfl⟩ := List.getElem?_eq_some_iff.1 hz
  exact ⟨hk, rfl⟩
set_option maxRecDepth 20000 in
set_option maxHeartbeats 1000000 in
theorem get_no (gr : Nat) (A : Option Addr) (n c p : Nat) (bs : List Nat) (width : Nat) (w : World) (h : RdS w gr A n c p bs) (hw : 8 * n < p + width) (hw2 : width ≤ 1000) :
    Calls Try.prog 35 #[.pointer (some ⟨gr, 0, none⟩), .int .i64 (width : Int)] w fun e w' => e = .returned (.tuple #[.int .i64 0, .bool false]) ∧ Ext w w' := by
  have hn : n ≤ 100000000000 := h.2.2.2.2.2.1
  have hp : p ≤ 8 * n := h.2.2.2.2.2.2
  have HL := hid_ (fun W h => left_any gr A n c p bs W h)
  generalize hl : 8 * n - p = l at *
  have hlw : l < width := by omega
  go_enter Try.func35, Try.ntmps35
  go_wp2_with (go_at_call 40; (with_reducible refine (HL.out _ h).mono ?_); rintro e w2 ⟨rfl, hx2⟩)
  go_ret2
  exact ⟨rfl, hx2⟩
set_option maxRecDepth 20000 in
set_option maxHeartbeats 1000000 in
theorem get_yes (gr : Nat) (A : Option Addr) (n c p : Nat) (bs : List Nat) (width : Nat) (w : World) (h : RdS w gr A n c p bs) (hw : p + width ≤ 8 * n) (hw2 : width ≤ 24) :
    Calls Try.prog 35 #[.pointer (some ⟨gr, 0, none⟩), .int .i64 (width : Int)] w fun e w' =>
      e = .returned (.tuple #[.int .i64 ((numB (((digsOf bs).drop p).take width) : Nat) : Int), .bool true]) ∧ RdS w' gr A n c (p + width) bs ∧ Upd (fun x => x = gr) w w' := by
  have hn : n ≤ 100000000000 := h.2.2.2.2.2.1
  have hp : p ≤ 8 * n := h.2.2.2.2.2.2
  have hbl := h.2.2.1
  have HB := hid_ h.2.2.2.2.1
  have hne := h.2.2.2.1
  have HD := hid_ (digsOf_len bs)
  have HL := hid_ (fun W h => left_any gr A n c p bs W h)
  have HNX := hid_ (fun i h1 h2 => numB_next bs p i h1 h2)
  have HLT := hid_ (fun i (h1 : i ≤ 24) => numB_take_lt ((digsOf bs).drop p) i 24 h1)
  generalize hl : 8 * n - p = l at *
  have hlw : ¬ l < width := by omega
  go_enter Try.func35, Try.ntmps35
  go_wp2_with (go_at_call 40; (with_reducible refine (HL.out _ h).mono ?_); rintro e w2 ⟨rfl, hx2⟩)
  have h2 := h.ext hx2
  go_loopw [6, 12] (fun v i wr => ∃ k : Nat, k ≤ width ∧ i = .int .i64 (k : Int) ∧ v = .int .i64 ((numB (((digsOf bs).drop p).take k) : Nat) : Int) ∧ RdS wr gr A n c (p + k) bs ∧ Upd (fun x => x = gr) w wr) (fun _ i _ => width - (intOf i).toNat)
  case atStart => exact ⟨0, by omega, rfl, by simp [numB], h2, Upd.of_ext hx2⟩
  case round =>
    obtain ⟨k, hk, rfl, rfl, hr, hu⟩ := hrel
    by_cases hlt : k < width
    · obtain ⟨q, hq⟩ : ∃ q, q = p + k := ⟨_, rfl⟩
      rw [← hq] at hr
      have hq8 : q / 8 < n := by omega
      have hqm : q % 8 < 8 := by omega
      obtain ⟨ad, u, rfl, hab, hxk, hcell⟩ := hr.2.1.at1 hq8
      obtain ⟨hkl, rfl⟩ := bytes_at hxk
      have HN2 := hid_ (HNX.out k (by have := HD.out; omega) (by rw [← hq]; exact hkl))
      have hx : bs[q / 8] < 256 := HB.out _ (List.getElem_mem hkl)
      have hm0 := HLT.out k (by omega)
      have HEQ : Hid (bs[(p + k) / 8]'(by rw [← hq]; exact hkl) = bs[q / 8]) := hid_ (by congr 2; omega)
      rw [HEQ.out, ← hq] at HN2
      clear HEQ
      generalize bs[q / 8] = x at *
      obtain ⟨s, hs⟩ : ∃ s, s = 7 - q % 8 := ⟨_, rfl⟩
      have HS : Hid (7 - q % 8 = s) := hid_ hs.symm
      have s8 : s < 8 := by omega
      rw [HS.out] at HN2
      have hy : x / 2 ^ s < 256 := by have := Nat.div_le_self x (2 ^ s); omega
      have hb : x / 2 ^ s % 2 < 256 := by omega
      have hb2 : x / 2 ^ s % 2 < 2 := by omega
      generalize hmm : numB (((digsOf bs).drop p).take k) = m at *
      have hm : m < 1099511627776 := by omega
      clear hmm hxk hs
      have HC0 : ∀ W, Ext wr.drew W → W.cell? ⟨gr, 0, none⟩ = some (.slice (some ad) n c) := fun W hx => (hr.drew.ext hx).cells.1
      have HC1 : ∀ W, Ext wr.drew W → W.cell? ⟨gr, 1, none⟩ = some (.int .i64 (q : Int)) := fun W hx => (hr.drew.ext hx).cells.2
      have HCX : ∀ W, Ext wr.drew W → W.cell? (ad.add (q / 8 * 1)) = some (.int .u8 ((x : Nat) : Int)) := fun W hxx => by
        rw [Nat.mul_one]
        exact (hxx.cell (by rw [block_of_add]; exact hab)).trans hcell
      clear hcell
      go_wp2_with fail
      refine wp_region_lx later_ext (by kernel_rfl) (by kernel_rfl) ?_
      refine lx_run (by rfl) (.int .i64 ((m : Nat) : Int)) (ex_move rfl rfl) ?_
      simp only [Act.put, List.setIfInBounds_toArray, List.set_cons_succ, List.set_cons_zero]
      refine lx_run (by rfl) (.int .i64 ((2 * m : Nat) : Int)) (ex_binK (k := .i64) (m := (m : Int)) (k' := .u64) (n := 1) rfl rfl rfl (run_shl_one m hm)) ?_
      simp only [Act.put, List.setIfInBounds_toArray, List.set_cons_succ, List.set_cons_zero]
      refine lx_run (by rfl) (.pointer (some ⟨gr, 0, none⟩)) (ex_move rfl rfl) ?_
      simp only [Act.put, List.setIfInBounds_toArray, List.set_cons_succ, List.set_cons_zero]
      refine lx_run (by rfl) (.pointer (some ⟨gr, 0, none⟩)) (ex_nil rfl rfl) ?_
      simp only [Act.put, List.setIfInBounds_toArray, List.set_cons_succ, List.set_cons_zero]
      refine lx_run (by rfl) (.pointer (some ⟨gr, 0, none⟩)) (fun W => by go_simp) ?_
      simp only [Act.put, List.setIfInBounds_toArray, List.set_cons_succ, List.set_cons_zero]
      refine lx_read (by rfl) (.slice (some ad) n c) (fun W hW => ex_loadS rfl rfl (HC0 W hW)) ?_
      simp only [Act.put, List.setIfInBounds_toArray, List.set_cons_succ, List.set_cons_zero]
      refine lx_run (by rfl) (.pointer (some ⟨gr, 0, none⟩)) (ex_move rfl rfl) ?_
      simp only [Act.put, List.setIfInBounds_toArray, List.set_cons_succ, List.set_cons_zero]
      refine lx_run (by rfl) (.pointer (some ⟨gr, 0, none⟩)) (ex_nil rfl rfl) ?_
      simp only [Act.put, List.setIfInBounds_toArray, List.set_cons_succ, List.set_cons_zero]
      refine lx_run (by rfl) (.pointer (some ⟨gr, 1, none⟩)) (fun W => by go_simp) ?_
      simp only [Act.put, List.setIfInBounds_toArray, List.set_cons_succ, List.set_cons_zero]
      refine lx_read (by rfl) (.int .i64 ((q : Nat) : Int)) (fun W hW => ex_loadI rfl rfl (HC1 W hW)) ?_
      simp only [Act.put, List.setIfInBounds_toArray, List.set_cons_succ, List.set_cons_zero]
      refine lx_run (by rfl) (.int .i64 ((q / 8 : Nat) : Int)) (ex_quoN (i := q) (d := 8) rfl rfl rfl (by omega) (by omega)) ?_
      simp only [Act.put, List.setIfInBounds_toArray, List.set_cons_succ, List.set_cons_zero]
      refine lx_run (by rfl) (.pointer (some (ad.add ((q / 8) * 1)))) (ex_ixSl Try.underlying23 sizeU8' rfl rfl rfl hq8) ?_
      simp only [Act.put, List.setIfInBounds_toArray, List.set_cons_succ, List.set_cons_zero]
      refine lx_read (by rfl) (.int .u8 ((x : Nat) : Int)) (fun W hW => ex_loadU rfl rfl (HCX W hW)) ?_
      simp only [Act.put, List.setIfInBounds_toArray, List.set_cons_succ, List.set_cons_zero]
      refine lx_run (by rfl) (.pointer (some ⟨gr, 0, none⟩)) (ex_move rfl rfl) ?_
      simp only [Act.put, List.setIfInBounds_toArray, List.set_cons_succ, List.set_cons_zero]
      refine lx_run (by rfl) (.pointer (some ⟨gr, 0, none⟩)) (ex_nil rfl rfl) ?_
      simp only [Act.put, List.setIfInBounds_toArray, List.set_cons_succ, List.set_cons_zero]
      refine lx_run (by rfl) (.pointer (some ⟨gr, 1, none⟩)) (fun W => by go_simp) ?_
      simp only [Act.put, List.setIfInBounds_toArray, List.set_cons_succ, List.set_cons_zero]
      refine lx_read (by rfl) (.int .i64 ((q : Nat) : Int)) (fun W hW => ex_loadI rfl rfl (HC1 W hW)) ?_
      simp only [Act.put, List.setIfInBounds_toArray, List.set_cons_succ, List.set_cons_zero]
      refine lx_run (by rfl) (.int .i64 ((q % 8 : Nat) : Int)) (ex_remN (i := q) (d := 8) rfl rfl rfl (by omega) (by omega)) ?_
      simp only [Act.put, List.setIfInBounds_toArray, List.set_cons_succ, List.set_cons_zero]
      refine lx_run (by rfl) (.int .i64 ((s : Nat) : Int)) (by rw [← HS.out]; exact ex_subN (i := 7) (d := q % 8) rfl rfl rfl (by omega) (by omega)) ?_
      simp only [Act.put, List.setIfInBounds_toArray, List.set_cons_succ, List.set_cons_zero]
      refine lx_run (by rfl) (.int .u8 ((x / 2 ^ s : Nat) : Int)) (ex_binK (k := .u8) (m := (x : Int)) (k' := .i64) (n := (s : Int)) rfl rfl rfl (run_shr8 x s hx s8)) ?_
      simp only [Act.put, List.setIfInBounds_toArray, List.set_cons_succ, List.set_cons_zero]
      refine lx_run (by rfl) (.int .u8 ((x / 2 ^ s % 2 : Nat) : Int)) (ex_binK (k := .u8) (m := ((x / 2 ^ s : Nat) : Int)) (k' := .u8) (n := 1) rfl rfl rfl (run_and8 (x / 2 ^ s) hy)) ?_
      simp only [Act.put, List.setIfInBounds_toArray, List.set_cons_succ, List.set_cons_zero]
      refine lx_run (by rfl) (.int .i64 ((x / 2 ^ s % 2 : Nat) : Int)) (ex_conv rfl rfl (run_conv8 (x / 2 ^ s % 2) hb)) ?_
      simp only [Act.put, List.setIfInBounds_toArray, List.set_cons_succ, List.set_cons_zero]
      refine lx_run (by rfl) (.int .i64 ((2 * m + x / 2 ^ s % 2 : Nat) : Int)) (ex_binK (k := .i64) (m := ((2 * m : Nat) : Int)) (k' := .i64) (n := ((x / 2 ^ s % 2 : Nat) : Int)) rfl rfl rfl (run_or2 m (x / 2 ^ s % 2) hm hb2)) ?_
      simp only [Act.put, List.setIfInBounds_toArray, List.set_cons_succ, List.set_cons_zero]
      refine lx_run (by rfl) (.int .i64 ((2 * m + x / 2 ^ s % 2 : Nat) : Int)) (ex_assign rfl rfl) ?_
      simp only [Act.put, List.setIfInBounds_toArray, List.set_cons_succ, List.set_cons_zero]
      refine lx_nil ?_
      intro w9 hx9
      have hr9 := hr.drew.ext hx9
      have hc1 := hr9.cells.2
      have hf1 := hr9.1.frozen 1
      have hb9 := hr9.1.set_ 1 (.int .i64 ((q : Int) + 1))
      simp at hb9
      have hu9 := (hu.trans (Upd.of_ext (S := fun x => x = gr) ((Ext.refl wr).drew.trans hx9)) (fun x hx => .inl hx)).setCell (p := ⟨gr, 1, none⟩) rfl (.int .i64 ((q : Int) + 1))
      have hs9 := hr9.2.1.upd (S := fun x => x = gr) ((Upd.refl (fun x => x = gr) w9).setCell (p := ⟨gr, 1, none⟩) rfl (.int .i64 ((q : Int) + 1))) (fun ad h e => by have := hr9.2.2.2.1 (by omega) ad h; omega)
      have hrest := hr9.2.2
      have HQ := hid_ hq
      have hq9 : q + 1 ≤ 8 * n := by omega
      have hqq : q + 1 = p + (k + 1) := by omega
      generalize hm2 : 2 * m + x / 2 ^ s % 2 = m2 at *
      clear hq hm2
      go_wp2_with fail
      go_roundw
      case rel =>
        refine ⟨k + 1, by omega, by go_num, by rw [HN2.out], ?_, hu9⟩
        rw [← hqq]
        exact ⟨by exact_mod_cast hb9, hs9, hrest.1, hrest.2.1, hrest.2.2.1, hrest.2.2.2.1, hq9⟩
      case measure => simp [intOf]; omega
    · have e1 : k = width := by omega
      rw [e1] at hr ⊢
      clear e1 hk hlt
      go_wp2_with fail
      go_ret2
      exact ⟨rfl, hr, hu⟩
theorem newReader_any (A : Option Addr) (n c : Nat) (bs : List Nat) (w : World) (h : SL w 1 (.slice A n c) n (bytesV bs)) (hl : bs.length = n) (hb : ∀ b ∈ bs, b < 256) (hn : n ≤ 100000000000) :
    Calls Try.prog 34 #[.slice A n c] w fun e w' => ∃ gr, e = .returned (.pointer (some ⟨gr, 0, none⟩)) ∧ RdS w' gr A n c 0 bs ∧ Ext w w' ∧ w.heap.size = gr ∧ gr < w'.heap.size := by
  go_enter Try.func34, Try.ntmps34
  go_wp2_with fail
  go_ret
  refine ⟨_, rfl, ⟨Blk.new _ _ _, h.ext ((Ext.refl w).alloc _), hl, fun h0 ad e => ?_, hb, hn, by omega⟩, (Ext.refl w).alloc _, by omega, by simp⟩
  obtain ⟨A', c', e1, -, -, -, h4⟩ := h
  injection e1 with e1 e2 e3
  obtain ⟨ad', e4, h5, -⟩ := h4 h0
  rw [e, e4] at e1
  injection e1 with e1
  rw [e1]; exact h5
end Go.Proofs.Ytbnjapgmpjkooaa
