/- bits.Writer. -/
import Derived.Test.YtbnjapgmpjkooaaMonoOrd
import Derived.Test.YtbnjapgmpjkooaaStrB
import Derived.Test.YtbnjapgmpjkooaaAppend
import Derived.Test.YtbnjapgmpjkooaaUpd
import Derived.Test.YtbnjapgmpjkooaaBytesV
import Derived.Outline
import Derived.IntWalk
namespace Go.Proofs.Ytbnjapgmpjkooaa
set_option linter.unusedVariables false
set_option linter.unusedSimpArgs false
open Go.RowKit
theorem elt_u8 : Elt Try.prog 23 5 1 1 := ⟨Try.underlying23, by kernel_rfl, by omega⟩
theorem u8_one (x : Int) : ∀ u ∈ [Value.int .u8 x], u.oneCell' = true := by
  intro u hu
  simp at hu
  subst hu
  rfl
/-- the writer in block gw has written L; r: where its bytes lie -/
def WrS (w : World) (gw : Nat) (L : List Bool) (r : Option Nat) : Prop :=
  ∃ A c, r = A.map (·.block) ∧ Blk w gw 61 #[.slice A (L.length / 8) c, .int .u64 (numB (restB L) : Nat), .int .i64 ((L.length % 8 : Nat) : Int)] ∧
    w.ownsRow (gw + 1) 5 1 (.slice A (L.length / 8) c) (L.length / 8) (bytesV (packB L))
/-- what a whole Put does to the numbers: R: the digits at hand -/
theorem put_or (R0 : List Bool) (value width : Nat) (h0 : R0.length < 8) (hw : width ≤ 24) (hv : value < 2 ^ width) :
    bits .or .u64 (IntKind.u64.wrap ((numB R0 : Int) * 2 ^ width)) (value : Int) = (numB (R0 ++ digs value width) : Nat) := by
  have h1 := numB_lt R0
  have h2 : (2 : Nat) ^ R0.length ≤ 2 ^ 7 := Nat.pow_le_pow_right (by omega) (by omega)
  have h3 : (2 : Nat) ^ width ≤ 2 ^ 24 := Nat.pow_le_pow_right (by omega) hw
  have h4 : numB R0 * 2 ^ width < 2 ^ 7 * 2 ^ 24 := by
    have h5 : numB R0 * 2 ^ width ≤ numB R0 * 2 ^ 24 := Nat.mul_le_mul_left _ h3
    have : numB R0 < 2 ^ 7 := by omega
    omega
  have e1 : IntKind.u64.wrap ((numB R0 : Int) * 2 ^ width) = ((numB R0 * 2 ^ width : Nat) : Int) := by
    rw [IntKind.wrap_u64]
    push_cast
    have : ((numB R0 * 2 ^ width : Nat) : Int) < 18446744073709551616 := by omega
    push_cast at this
    exact Int.emod_eq_of_lt (by exact_mod_cast Nat.zero_le _) this
  rw [e1, u64_or_nat _ _ (by omega) (by omega)]
  congr 1
  rw [nat_join width _ _ (by simp) hv, numB_append, numB_digs_lt hv, digs_len]
theorem put_and (R : List Bool) (hb : numB R < 4294967296) : bits .and .u64 (numB R : Int) (IntKind.u64.wrap (IntKind.u64.wrap (2 ^ (R.length % 8)) - 1)) = (numB (restB R) : Nat) := by
  have hq : R.length % 8 < 8 := by omega
  have h3 : (2 : Nat) ^ (R.length % 8) ≤ 2 ^ 8 := Nat.pow_le_pow_right (by omega) (by omega)
  have h4 := Nat.two_pow_pos (R.length % 8)
  have e1 : IntKind.u64.wrap (2 ^ (R.length % 8)) = ((2 ^ (R.length % 8) : Nat) : Int) := by
    rw [IntKind.wrap_u64]
    have : ((2 : Int) ^ (R.length % 8)) = ((2 ^ (R.length % 8) : Nat) : Int) := by push_cast; rfl
    rw [this]
    exact Int.emod_eq_of_lt (by omega) (by omega)
  have e2 : IntKind.u64.wrap (((2 ^ (R.length % 8) : Nat) : Int) - 1) = ((2 ^ (R.length % 8) - 1 : Nat) : Int) := by
    rw [IntKind.wrap_u64, Int.emod_eq_of_lt (by omega) (by omega)]
    omega
  rw [e1, e2, u64_and_nat _ _ (by omega) (by omega), Nat.and_two_pow_sub_one_eq_mod]
  unfold restB
  rw [numB_drop]
  rw [show R.length - 8 * (R.length / 8) = R.length % 8 by omega]
def manyOf (w : World) (gw : Nat) : Nat := match w.cell? ⟨gw, 2, none⟩ with | some (.int _ n) => n.toNat | _ => 0
theorem many_of {w : World} {gw : Nat} {T : TypeId} {x y : Value} {k : IntKind} {n : Int} (h : Blk w gw T #[x, y, .int k n]) : manyOf w gw = n.toNat := by
  unfold manyOf
  rw [h.cell 2]
  rfl
theorem own_set {w : World} {gw n size : Nat} {e : TypeId} {v : Value} {xs : List Value} (h : w.ownsRow (gw + 1) e size v n xs) (i : Nat) (u : Value) : (w.setCell ⟨gw, i, none⟩ u).ownsRow (gw + 1) e size v n xs := by
  obtain ⟨hl, hh⟩ := h
  refine ⟨hl, ?_⟩
  rcases hh with ⟨rfl, rfl⟩ | ⟨g, cap, cur, rfl, h1, hg, h2⟩
  · exact .inl ⟨rfl, rfl⟩
  · exact .inr ⟨g, cap, cur, rfl, h1, (Below.heap_setCell w ⟨gw, i, none⟩ u g (by show g ≠ gw; omega)).trans hg, h2⟩
theorem own_map (A : Option Addr) (n c : Nat) : (Value.slice A n c).ownBlock = A.map (·.block) := by cases A <;> rfl
theorem later_eq : Later (fun a b : World => a = b) := ⟨fun _ => rfl, fun h k => h.trans k⟩
theorem packB_take (R : List Bool) (j : Nat) (h : j < R.length / 8) : (packB R).take (j + 1) = (packB R).take j ++ [numB ((R.drop (8 * j)).take 8)] := by
  rw [List.take_succ_eq_append_getElem (by rw [packB_len]; exact h)]
  simp [packB]
theorem own_ne {w : World} {gw n size : Nat} {e : TypeId} {v : Value} {xs : List Value} (h : w.ownsRow (gw + 1) e size v n xs) : some gw ≠ v.ownBlock := fun hk => by
  have := (h.lt gw hk.symm).1
  omega
theorem own_ext0' {w w' : World} {base : Nat} {e : TypeId} {size n : Nat} {v : Value} {xs : List Value} (h : w.ownsRow base e size v n xs) (hb : Ext w w') : w'.ownsRow base e size v n xs := by
  obtain ⟨hl, hh⟩ := h
  refine ⟨hl, ?_⟩
  rcases hh with ⟨rfl, rfl⟩ | ⟨g, cap, cur, rfl, h1, hg, h2⟩
  · exact .inl ⟨rfl, rfl⟩
  · exact .inr ⟨g, cap, cur, rfl, h1, (hb.block g (Blk.lt (w := w) (t := e) (cs := cur) hg)).trans hg, h2⟩
theorem put_len (L : List Bool) (value width : Nat) : (L ++ digs value width).length = L.length + width := by simp [digs_len]
set_option maxRecDepth 20000 in
set_option maxHeartbeats 1000000 in
theorem put_any (gw : Nat) (L : List Bool) (r : Option Nat) (value width : Nat) (w : World) (h : WrS w gw L r) (hw : width ≤ 24) (hv : value < 2 ^ width) (hl : L.length ≤ 1000000000000) :
    Calls Try.prog 26 #[.pointer (some ⟨gw, 0, none⟩), .int .i64 (width : Int), .int .i64 (value : Int)] w fun e w' => e = .returned (.tuple #[]) ∧
      ∃ r', WrS w' gw (L ++ digs value width) r' ∧ (r' = r ∨ ∃ b, r' = some b ∧ w.heap.size ≤ b) ∧ Upd (fun b => b = gw ∨ r = some b) w w' := by
  obtain ⟨A, c, hr, hB, hown⟩ := h
  have HOR := hid_ (put_or (restB L) value width (by rw [restB_len]; omega) hw hv)
  have hRl : (restB L ++ digs value width).length = L.length % 8 + width := by rw [List.length_append, restB_len, digs_len]
  have HPA := hid_ (packB_append L (digs value width))
  have HRA := hid_ (restB_append L (digs value width))
  have HPL := hid_ (put_len L value width)
  have HR0 := hid_ (numB_lt (restB L))
  have hv24 : value < 16777216 := by have := Nat.pow_le_pow_right (n := 2) (by omega) hw; omega
  have hlt0 : numB (restB L) < 256 := by have := numB_lt (restB L); rw [restB_len] at this; have := Nat.pow_le_pow_right (n := 2) (by omega) (show L.length % 8 ≤ 8 by omega); omega
  have hN0 : L.length % 8 < 8 := by omega
  have hn0b : L.length / 8 ≤ 1000000000000 := by omega
  have hRb : numB (restB L ++ digs value width) < 4294967296 := by
    have := numB_lt (restB L ++ digs value width)
    rw [hRl] at this
    have := Nat.pow_le_pow_right (n := 2) (by omega) (show L.length % 8 + width ≤ 32 by omega)
    omega
  generalize hR : restB L ++ digs value width = R at *
  generalize hm : L.length % 8 = m at *
  generalize hn : L.length / 8 = n0 at *
  generalize hT : packB L = T at *
  generalize hacc : numB (restB L) = acc at *
  have HR := hid_ hR
  have Hm := hid_ hm
  have Hn := hid_ hn
  have c0 := hB.cell 0
  have c1 := hB.cell 1
  have c2 := hB.cell 2
  have f1 := hB.frozen 1
  have f2 := hB.frozen 2
  simp at c0 c1 c2
  have hgw := hB.lt
  clear hR hm hn hT hacc hl hv
  have HRL := hid_ hRl
  clear hRl
  go_enter Try.func26, Try.ntmps26
  go_wp2_with fail
  rw [HOR.out]
  have hBs := (hB.set_ 1 (.int .u64 (numB R : Nat))).set_ 2 (.int .i64 ((m : Int) + width))
  simp at hBs
  have hun : Upd (fun b => b = gw ∨ r = some b) w ((w.setCell ⟨gw, 1, none⟩ (.int .u64 (numB R : Nat))).setCell ⟨gw, 2, none⟩ (.int .i64 ((m : Int) + width))) :=
    ((Upd.refl _ w).setCell (.inl rfl) _).setCell (.inl rfl) _
  have hown2 : ((w.setCell ⟨gw, 1, none⟩ (.int .u64 (numB R : Nat))).setCell ⟨gw, 2, none⟩ (.int .i64 ((m : Int) + width))).ownsRow (gw + 1) 5 1 (.slice A n0 c) n0 (bytesV T) := own_set (own_set hown 1 _) 2 _
  generalize (w.setCell ⟨gw, 1, none⟩ (.int .u64 (numB R : Nat))).setCell ⟨gw, 2, none⟩ (.int .i64 ((m : Int) + width)) = w2 at *
  clear c0 c1 c2 f1 f2
  go_loopw [29] (fun _ wr => ∃ (j : Nat) (A' : Option Addr) (c' : Nat), j ≤ R.length / 8 ∧ Blk wr gw 61 #[.slice A' (n0 + j) c', .int .u64 (numB R : Nat), .int .i64 ((R.length - 8 * j : Nat) : Int)] ∧
    wr.ownsRow (gw + 1) 5 1 (.slice A' (n0 + j) c') (n0 + j) (bytesV (T ++ (packB R).take j)) ∧ (A'.map (·.block) = r ∨ ∃ b, A'.map (·.block) = some b ∧ w.heap.size ≤ b) ∧ Upd (fun b => b = gw ∨ r = some b) w wr) (fun _ wr => manyOf wr gw)
  case atStart => exact ⟨0, A, c, by omega, by have := HRL.out; have e : ((R.length - 8 * 0 : Nat) : Int) = (m : Int) + width := by omega
                                               rw [e]; exact hBs, by simpa using hown2, .inl hr.symm, hun⟩
  case round =>
    clear hBs hown2 hun hB hown
    obtain ⟨j, A', c', hj, hB, hown, hrow, hu⟩ := hrel
    have c0 := hB.cell 0
    have c1 := hB.cell 1
    have c2 := hB.cell 2
    simp only [List.getElem?_toArray, List.getElem?_cons_zero, List.getElem?_cons_succ] at c0 c1 c2
    by_cases hlt : j < R.length / 8
    · obtain ⟨k, hk⟩ : ∃ k : Nat, R.length - 8 * j = k + 8 := ⟨R.length - 8 * j - 8, by omega⟩
      have HK := hid_ hk
      rw [hk] at c2
      have hk8 : k ≤ 32 := by have := HRL.out; omega
      have hj8 : j ≤ 4 := by have := HRL.out; omega
      clear hk
      go_wp2_with fail
      have HC0 := hid_ (fun W (hW : Ext wr.drew W) => by have := (hB.drew.ext hW).cell 0; simpa using this)
      have HC1 := hid_ (fun W (hW : Ext wr.drew W) => by have := (hB.drew.ext hW).cell 1; simpa using this)
      have HC2 := hid_ (fun W (hW : Ext wr.drew W) => by have := (hB.drew.ext hW).cell 2; rw [HK.out] at this; simpa using this)
      clear c0 c1 c2
      have HWR : Hid (IntKind.i64.wrap (k : Int) = k) := hid_ (IntWalk.i64_in _ (by omega))
      have HPJ := hid_ (packB_take R j (by omega))
      have HQ : Hid (numB ((R.drop (8 * j)).take 8) = numB R / 2 ^ k % 256) := hid_ (by
        rw [numB_mid R (8 * j) 8 (by omega)]
        have := HK.out
        rw [show R.length - (8 * j + 8) = k by omega])
      rw [HQ.out] at HPJ
      have HCV : Hid (IntKind.u8.wrap ((numB R : Int) / 2 ^ k) = ((numB R / 2 ^ k % 256 : Nat) : Int)) := hid_ (by rw [IntKind.wrap_u8']; simp)
      generalize numB R / 2 ^ k % 256 = y at *
      refine wp_region_ordp later_ext [0] [1, 2, 3, 4, 5, 6, 7, 8, 9, 10, 11, 12, 13, 14, 15, 16] 17 [18, 19, 20] (by kernel_rfl) (by kernel_rfl) ?_
      iterate 1 (refine lp_ex rfl (by rfl) ?_; apply Exists.intro; refine ⟨fun w => ?_, ?_⟩; · (go_simp; with_reducible rfl)
                 simp only [Act.put, List.setIfInBounds_toArray, List.set_cons_succ, List.set_cons_zero])
      refine lp_nil ?_
      iterate 15 (refine lo_ex rfl (by rfl) ?_; apply Exists.intro; refine ⟨fun w hw => ?_, ?_⟩; · (have h0 := HC0.out w hw; have h1 := HC1.out w hw; have h2 := HC2.out w hw; have h3 := HWR.out; have h5 := HCV.out; go_simp; with_reducible rfl)
                  simp only [Act.put, List.setIfInBounds_toArray, List.set_cons_succ, List.set_cons_zero])
      refine lo_alone rfl (by kernel_rfl) (by rfl) (fun w3 hw3 => ?_)
      go_simp
      refine ⟨(Ext.refl w3).alloc _, ?_⟩
      refine lo_nil ?_
      intro w4 hw4
      have hx4 : Ext wr w4 := ((((Ext.refl wr).drew).trans hw3).alloc (.cells #[.int .u8 (y : Int)] 5)).trans hw4
      have hB4 := hB.ext hx4
      have hown4 := own_ext0' hown hx4
      have hone := hid_ ((one_sl w3 5 (.int .u8 (y : Int))).ext hw4)
      have hz4 := hx4.size
      have hgw4 := hB4.lt
      clear HC0 HC1 HC2 HCV HWR hw3 hw4
      try simp only [List.filterMap_cons, List.filterMap_nil, List.getElem?_cons_succ, List.getElem?_cons_zero, List.getElem?_toArray]
      go_wp2_with (at_builtin; go_must (refine wpList_append_slf elt_u8 rfl _ _ rfl (gw + 1) (.slice A' (n0 + j) c') _ _ rfl hown4 _ 1 [.int .u8 _] rfl hone.out (u8_one _) (by omega) (by omega) (by omega) ?_); intro A7 c7 w7 hown7 hg7 hrow7; have hB7 := hB4.grown hg7 (own_ne hown4); have c0 := hB7.cell 0; have f0 := hB7.frozen 0; have c2 := hB7.cell 2; have f2 := hB7.frozen 2; rw [HK.out] at c2; simp only [List.getElem?_toArray, List.getElem?_cons_zero, List.getElem?_cons_succ] at c0 c2)
      simp only [onlyN]
      go_wp2_with fail
      go_roundw
      case rel =>
        have hb8 := (hB7.set_ 0 (.slice A7 (n0 + j + 1) c7)).set_ 2 (.int .i64 (k : Int))
        simp only [List.setIfInBounds_toArray, List.set_cons_zero, List.set_cons_succ] at hb8
        refine ⟨j + 1, A7, c7, by omega, ?_, ?_, ?_, ?_⟩
        · have e : ((R.length - 8 * (j + 1) : Nat) : Int) = (k : Int) := by have := HK.out; omega
          rw [e]
          exact hb8
        · rw [HPJ.out, ← List.append_assoc, bytesV_snoc]
          exact own_set (own_set hown7 0 _) 2 _
        · rw [own_map] at hrow7
          rcases hrow7 with h7 | h7
          · rw [h7]; exact hrow
          · exact .inr ⟨_, h7, by have := hu.size; omega⟩
        · have h8 := (hu.trans (Upd.of_ext (S := fun _ => False) hx4) (fun x hx => hx.elim)).grown hg7 (fun b hb => by
            rw [own_map] at hb
            rcases hrow with h9 | ⟨b', h9, h10⟩
            · exact .inl (.inr (h9 ▸ hb))
            · rw [h9] at hb
              injection hb with hb
              subst hb
              exact .inr h10)
          exact (h8.setCell (.inl rfl) _).setCell (.inl rfl) _
      case measure =>
        have hb8 := (hB7.set_ 0 (.slice A7 (n0 + j + 1) c7)).set_ 2 (.int .i64 (k : Int))
        simp only [List.setIfInBounds_toArray, List.set_cons_zero, List.set_cons_succ] at hb8
        rw [many_of hb8, many_of hB]
        have := HK.out
        omega
    · have hjj : j = R.length / 8 := by omega
      have hk : R.length - 8 * j = R.length % 8 := by omega
      rw [hk] at c2 hB
      have hk8 : R.length % 8 < 8 := by omega
      have HAN := hid_ (put_and R hRb)
      generalize hq : R.length % 8 = q at *
      clear hk
      go_wp2_with fail
      refine wp_region_lxt later_eq 11 (by kernel_rfl) (by kernel_rfl) ?_
      simp only [List.take_succ_cons, List.take_zero]
      iterate 11 (refine lx_ex (by rfl) ?_; apply Exists.intro; refine ⟨fun w hw => ?_, ?_⟩; · (subst hw; go_simp; with_reducible rfl)
                  simp only [Act.put, List.setIfInBounds_toArray, List.set_cons_succ, List.set_cons_zero])
      refine lx_nil ?_
      rintro w3 rfl
      rw [HAN.out]
      have f1 := hB.frozen 1
      try simp only [List.drop_succ_cons, List.drop_zero]
      go_wp2_with fail
      go_end0
      have hb8 := hB.drew.set_ 1 (.int .u64 (numB (restB R) : Nat))
      simp only [List.setIfInBounds_toArray, List.set_cons_zero, List.set_cons_succ] at hb8
      refine ⟨rfl, A'.map (·.block), ⟨A', c', rfl, ?_, ?_⟩, hrow, hu.drew.setCell (.inl rfl) _⟩
      · have e1 : (L ++ digs value width).length / 8 = n0 + j := by have := HPL.out; have := Hm.out; have := Hn.out; have := HRL.out; omega
        have e2 : (L ++ digs value width).length % 8 = q := by have := HPL.out; have := Hm.out; have := Hn.out; have := HRL.out; omega
        rw [e1, e2, HRA.out]
        exact hb8
      · have e1 : (L ++ digs value width).length / 8 = n0 + j := by have := HPL.out; have := Hm.out; have := Hn.out; have := HRL.out; omega
        rw [e1, HPA.out]
        have e3 : (packB R).take j = packB R := List.take_of_length_le (by rw [packB_len]; omega)
        rw [e3] at hown
        exact own_set (w := wr.drew) hown 1 _
theorem own_out' {w : World} {base : Nat} {e : TypeId} {size n c : Nat} {A : Option Addr} {xs : List Value} (h : w.ownsRow base e size (.slice A n c) n xs) : SL w size (.slice A n c) n xs ∧ ∀ ad, A = some ad → base ≤ ad.block := by
  obtain ⟨B, d, e1, h1, h2⟩ := own_form h
  injection e1 with e1 e2 e3
  subst e1 e3
  exact ⟨h1, h2⟩
theorem WrS.nil (w : World) (gw : Nat) (h : Blk w gw 61 #[.slice none 0 0, .int .u64 0, .int .i64 0]) : WrS w gw [] none :=
  ⟨none, 0, rfl, h, World.ownsRow_nil _ _ _ _⟩
theorem WrS.ext {w w' : World} {gw : Nat} {L : List Bool} {r : Option Nat} (h : WrS w gw L r) (hx : Ext w w') : WrS w' gw L r := by
  obtain ⟨A, c, h1, h2, h3⟩ := h
  exact ⟨A, c, h1, h2.ext hx, own_ext0' h3 hx⟩
theorem WrS.lt {w : World} {gw : Nat} {L : List Bool} {r : Option Nat} (h : WrS w gw L r) : gw < w.heap.size := by
  obtain ⟨A, c, h1, h2, h3⟩ := h
  exact h2.lt
theorem WrS.row {w : World} {gw : Nat} {L : List Bool} {r : Option Nat} (h : WrS w gw L r) : ∀ b, r = some b → gw < b ∧ b < w.heap.size := by
  obtain ⟨A, c, h1, h2, h3⟩ := h
  intro b hb
  subst h1
  have := h3.lt b (by rw [own_map]; exact hb)
  omega
theorem WrS.drew {w : World} {gw : Nat} {L : List Bool} {r : Option Nat} (h : WrS w gw L r) : WrS w.drew gw L r := h
/-- the writer is untouched where its blocks are -/
theorem WrS.upd {S : Nat → Prop} {w w' : World} {gw : Nat} {L : List Bool} {r : Option Nat} (h : WrS w gw L r) (hu : Upd S w w') (h1 : ¬ S gw) (h2 : ∀ b, r = some b → ¬ S b) : WrS w' gw L r := by
  have hrow := h.row
  obtain ⟨A, c, e1, hB, hown⟩ := h
  refine ⟨A, c, e1, (hu.block gw hB.lt h1).trans hB, hown.1, ?_⟩
  rcases hown.2 with ⟨h0, h0'⟩ | ⟨g, cap, cur, e2, h3, hg, h4⟩
  · exact .inl ⟨h0, h0'⟩
  · have hr : r = some g := by
      rw [e1]
      injection e2 with e2 _ _
      rw [e2]
      rfl
    exact .inr ⟨g, cap, cur, e2, h3, (hu.block g (hrow g hr).2 (h2 g hr)).trans hg, h4⟩
end Go.Proofs.Ytbnjapgmpjkooaa
