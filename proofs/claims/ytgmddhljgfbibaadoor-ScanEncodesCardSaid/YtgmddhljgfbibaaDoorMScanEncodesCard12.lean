/- Contracts for the law ScanEncodesCard, part 12: what the functions that it reaches answer, for all arguments that the theorems name. -/
import Derived.Test.YtgmddhljgfbibaaDoorMScanEncodesCard11
import Derived.Test.YtgmddhljgfbibaaDoorMScanEncodesCard10
import Derived.Test.YtgmddhljgfbibaaDoorMScanEncodesCard3
import Derived.Test.YtgmddhljgfbibaaDoorMScanEncodesCard7
import Derived.Outline
import Derived.IntWalk
import Derived.WideKeyPair
import Derived.Test.YtgmddhljgfbibaaDoorMScanEncodesCard9
/- bits.Writer. -/
namespace Go.Proofs.YtgmddhljgfbibaaDoor
set_option linter.unusedVariables false
set_option linter.unusedSimpArgs false
open Go.RowKit
theorem elt_u8 : Elt Tryd.prog 22 5 1 1 := ⟨Tryd.underlying22, by kernel_rfl, by omega⟩
theorem u8_one (x : Int) : ∀ u ∈ [Value.int .u8 x], u.oneCell' = true := by
  intro u hu
  simp at hu
  subst hu
  rfl
/-- the writer in block gw has written L; r: where its bytes lie -/
def WrS (w : World) (gw : Nat) (L : List Bool) (r : Option Nat) : Prop :=
  ∃ A c, r = A.map (·.block) ∧ Blk w gw 57 #[.slice A (L.length / 8) c, .int .u64 (numB (restB L) : Nat), .int .i64 ((L.length % 8 : Nat) : Int)] ∧
    w.ownsRow (gw + 1) 5 1 (.slice A (L.length / 8) c) (L.length / 8) (bytesV (packB L))
/-- what a whole Put does to the numbers: R: the digits at hand -/
theorem put_or (R0 : List Bool) (value width : Nat) (h0 : R0.length < 8) (hw : width ≤ 24) (hv : value < 2 ^ width) :
    bits .or .u64 (IntKind.u64.wrap ((numB R0 : Int) * 2 ^ width)) (value : Int) = (numB (R0 ++ digs value width) : Nat) := by
  have h1 := numB_lt R0
  have h2 : (2 : Nat) ^ R0.length ≤ 2 ^ 7 := Nat.pow_le_pow_right (by omega) (by omega)
  have h3 : (2 : Nat) ^ width ≤ 2 ^ 24 := Nat.pow_le_pow_right (by omega) hw
  have h4 : numB R0 * 2 ^ width < 2 ^ 7 * 2 ^ 24 := by
    have h5 : numB R0 * 2 ^ width ≤ numB R0 * 2 ^ 24 := Nat.mul_le_mul_left _ h3
    have : numB R0 < 2 ^ 7 := by omega
    omega
  have e1 : IntKind.u64.wrap ((numB R0 : Int) * 2 ^ width) = ((numB R0 * 2 ^ width : Nat) : Int) := by
    rw [IntKind.wrap_u64]
    push_cast
    have : ((numB R0 * 2 ^ width : Nat) : Int) < 18446744073709551616 := by omega
    push_cast at this
    exact Int.emod_eq_of_lt (by exact_mod_cast Nat.zero_le _) this
  rw [e1, u64_or_nat _ _ (by omega) (by omega)]
  congr 1
  rw [nat_join width _ _ (by simp) hv, numB_append, numB_digs_lt hv, digs_len]
theorem put_and (R : List Bool) (hb : numB R < 4294967296) : bits .and .u64 (numB R : Int) (IntKind.u64.wrap (IntKind.u64.wrap (2 ^ (R.length % 8)) - 1)) = (numB (restB R) : Nat) := by
  have hq : R.length % 8 < 8 := by omega
  have h3 : (2 : Nat) ^ (R.length % 8) ≤ 2 ^ 8 := Nat.pow_le_pow_right (by omega) (by omega)
  have h4 := Nat.two_pow_pos (R.length % 8)
  have e1 : IntKind.u64.wrap (2 ^ (R.length % 8)) = ((2 ^ (R.length % 8) : Nat) : Int) := by
    rw [IntKind.wrap_u64]
    have : ((2 : Int) ^ (R.length % 8)) = ((2 ^ (R.length % 8) : Nat) : Int) := by push_cast; rfl
    rw [this]
    exact Int.emod_eq_of_lt (by omega) (by omega)
  have e2 : IntKind.u64.wrap (((2 ^ (R.length % 8) : Nat) : Int) - 1) = ((2 ^ (R.length % 8) - 1 : Nat) : Int) := by
    rw [IntKind.wrap_u64, Int.emod_eq_of_lt (by omega) (by omega)]
    omega
  rw [e1, e2, u64_and_nat _ _ (by omega) (by omega), Nat.and_two_pow_sub_one_eq_mod]
  unfold restB
  rw [numB_drop]
  rw [show R.length - 8 * (R.length / 8) = R.length % 8 by omega]
def manyOf (w : World) (gw : Nat) : Nat := match w.cell? ⟨gw, 2, none⟩ with | some (.int _ n) => n.toNat | _ => 0
theorem many_of {w : World} {gw : Nat} {T : TypeId} {x y : Value} {k : IntKind} {n : Int} (h : Blk w gw T #[x, y, .int k n]) : manyOf w gw = n.toNat := by
  unfold manyOf
  rw [h.cell 2]
  rfl
theorem own_set {w : World} {gw n size : Nat} {e : TypeId} {v : Value} {xs : List Value} (h : w.ownsRow (gw + 1) e size v n xs) (i : Nat) (u : Value) : (w.setCell ⟨gw, i, none⟩ u).ownsRow (gw + 1) e size v n xs := by
  obtain ⟨hl, hh⟩ := h
  refine ⟨hl, ?_⟩
  rcases hh with ⟨rfl, rfl⟩ | ⟨g, cap, cur, rfl, h1, hg, h2⟩
  · exact .inl ⟨rfl, rfl⟩
  · exact .inr ⟨g, cap, cur, rfl, h1, (Below.heap_setCell w ⟨gw, i, none⟩ u g (by show g ≠ gw; omega)).trans hg, h2⟩
theorem own_map (A : Option Addr) (n c : Nat) : (Value.slice A n c).ownBlock = A.map (·.block) := by cases A <;> rfl
theorem later_eq : Later (fun a b : World => a = b) := ⟨fun _ => rfl, fun h k => h.trans k⟩
theorem packB_take (R : List Bool) (j : Nat) (h : j < R.length / 8) : (packB R).take (j + 1) = (packB R).take j ++ [numB ((R.drop (8 * j)).take 8)] := by
  rw [List.take_succ_eq_append_getElem (by rw [packB_len]; exact h)]
  simp [packB]
theorem own_ne {w : World} {gw n size : Nat} {e : TypeId} {v : Value} {xs : List Value} (h : w.ownsRow (gw + 1) e size v n xs) : some gw ≠ v.ownBlock := fun hk => by
  have := (h.lt gw hk.symm).1
  omega
theorem own_ext0' {w w' : World} {base : Nat} {e : TypeId} {size n : Nat} {v : Value} {xs : List Value} (h : w.ownsRow base e size v n xs) (hb : Ext w w') : w'.ownsRow base e size v n xs := by
  obtain ⟨hl, hh⟩ := h
  refine ⟨hl, ?_⟩
  rcases hh with ⟨rfl, rfl⟩ | ⟨g, cap, cur, rfl, h1, hg, h2⟩
  · exact .inl ⟨rfl, rfl⟩
  · exact .inr ⟨g, cap, cur, rfl, h1, (hb.block g (Blk.lt (w := w) (t := e) (cs := cur) hg)).trans hg, h2⟩
theorem put_len (L : List Bool) (value width : Nat) : (L ++ digs value width).length = L.length + width := by simp [digs_len]
set_option maxRecDepth 20000 in
set_option maxHeartbeats 1000000 in
theorem put_any (gw : Nat) (L : List Bool) (r : Option Nat) (value width : Nat) (w : World) (h : WrS w gw L r) (hw : width ≤ 24) (hv : value < 2 ^ width) (hl : L.length ≤ 1000000000000) :
    Calls Tryd.prog 27 #[.pointer (some ⟨gw, 0, none⟩), .int .i64 (width : Int), .int .i64 (value : Int)] w fun e w' => e = .returned (.tuple #[]) ∧
      ∃ r', WrS w' gw (L ++ digs value width) r' ∧ (r' = r ∨ ∃ b, r' = some b ∧ w.heap.size ≤ b) ∧ Upd (fun b => b = gw ∨ r = some b) w w' := by
  obtain ⟨A, c, hr, hB, hown⟩ := h
  have HOR := hid_ (put_or (restB L) value width (by rw [restB_len]; omega) hw hv)
  have hRl : (restB L ++ digs value width).length = L.length % 8 + width := by rw [List.length_append, restB_len, digs_len]
  have HPA := hid_ (packB_append L (digs value width))
  have HRA := hid_ (restB_append L (digs value width))
  have HPL := hid_ (put_len L value width)
  have HR0 := hid_ (numB_lt (restB L))
  have hv24 : value < 16777216 := by have := Nat.pow_le_pow_right (n := 2) (by omega) hw; omega
  have hlt0 : numB (restB L) < 256 := by have := numB_lt (restB L); rw [restB_len] at this; have := Nat.pow_le_pow_right (n := 2) (by omega) (show L.length % 8 ≤ 8 by omega); omega
  have hN0 : L.length % 8 < 8 := by omega
  have hn0b : L.length / 8 ≤ 1000000000000 := by omega
  have hRb : numB (restB L ++ digs value width) < 4294967296 := by
    have := numB_lt (restB L ++ digs value width)
    rw [hRl] at this
    have := Nat.pow_le_pow_right (n := 2) (by omega) (show L.length % 8 + width ≤ 32 by omega)
    omega
  generalize hR : restB L ++ digs value width = R at *
  generalize hm : L.length % 8 = m at *
  generalize hn : L.length / 8 = n0 at *
  generalize hT : packB L = T at *
  generalize hacc : numB (restB L) = acc at *
  have HR := hid_ hR
  have Hm := hid_ hm
  have Hn := hid_ hn
  have c0 := hB.cell 0
  have c1 := hB.cell 1
  have c2 := hB.cell 2
  have f1 := hB.frozen 1
  have f2 := hB.frozen 2
  simp at c0 c1 c2
  have hgw := hB.lt
  clear hR hm hn hT hacc hl hv
  have HRL := hid_ hRl
  clear hRl
  go_enter Tryd.func27, Tryd.ntmps27
  go_wp2_with fail
  rw [HOR.out]
  have hBs := (hB.set_ 1 (.int .u64 (numB R : Nat))).set_ 2 (.int .i64 ((m : Int) + width))
  simp at hBs
  have hun : Upd (fun b => b = gw ∨ r = some b) w ((w.setCell ⟨gw, 1, none⟩ (.int .u64 (numB R : Nat))).setCell ⟨gw, 2, none⟩ (.int .i64 ((m : Int) + width))) :=
    ((Upd.refl _ w).setCell (.inl rfl) _).setCell (.inl rfl) _
  have hown2 : ((w.setCell ⟨gw, 1, none⟩ (.int .u64 (numB R : Nat))).setCell ⟨gw, 2, none⟩ (.int .i64 ((m : Int) + width))).ownsRow (gw + 1) 5 1 (.slice A n0 c) n0 (bytesV T) := own_set (own_set hown 1 _) 2 _
  generalize (w.setCell ⟨gw, 1, none⟩ (.int .u64 (numB R : Nat))).setCell ⟨gw, 2, none⟩ (.int .i64 ((m : Int) + width)) = w2 at *
  clear c0 c1 c2 f1 f2
  go_loopw [29] (fun _ wr => ∃ (j : Nat) (A' : Option Addr) (c' : Nat), j ≤ R.length / 8 ∧ Blk wr gw 57 #[.slice A' (n0 + j) c', .int .u64 (numB R : Nat), .int .i64 ((R.length - 8 * j : Nat) : Int)] ∧
    wr.ownsRow (gw + 1) 5 1 (.slice A' (n0 + j) c') (n0 + j) (bytesV (T ++ (packB R).take j)) ∧ (A'.map (·.block) = r ∨ ∃ b, A'.map (·.block) = some b ∧ w.heap.size ≤ b) ∧ Upd (fun b => b = gw ∨ r = some b) w wr) (fun _ wr => manyOf wr gw)
  case atStart => exact ⟨0, A, c, by omega, by have := HRL.out; have e : ((R.length - 8 * 0 : Nat) : Int) = (m : Int) + width := by omega
                                               rw [e]; exact hBs, by simpa using hown2, .inl hr.symm, hun⟩
  case round =>
    clear hBs hown2 hun hB hown
    obtain ⟨j, A', c', hj, hB, hown, hrow, hu⟩ := hrel
    have c0 := hB.cell 0
    have c1 := hB.cell 1
    have c2 := hB.cell 2
    simp only [List.getElem?_toArray, List.getElem?_cons_zero, List.getElem?_cons_succ] at c0 c1 c2
    by_cases hlt : j < R.length / 8
    · obtain ⟨k, hk⟩ : ∃ k : Nat, R.length - 8 * j = k + 8 := ⟨R.length - 8 * j - 8, by omega⟩
      have HK := hid_ hk
      rw [hk] at c2
      have hk8 : k ≤ 32 := by have := HRL.out; omega
      have hj8 : j ≤ 4 := by have := HRL.out; omega
      clear hk
      go_wp2_with fail
      have HC0 := hid_ (fun W (hW : Ext wr.drew W) => by have := (hB.drew.ext hW).cell 0; simpa using this)
      have HC1 := hid_ (fun W (hW : Ext wr.drew W) => by have := (hB.drew.ext hW).cell 1; simpa using this)
      have HC2 := hid_ (fun W (hW : Ext wr.drew W) => by have := (hB.drew.ext hW).cell 2; rw [HK.out] at this; simpa using this)
      clear c0 c1 c2
      have HWR : Hid (IntKind.i64.wrap (k : Int) = k) := hid_ (IntWalk.i64_in _ (by omega))
      have HPJ := hid_ (packB_take R j (by omega))
      have HQ : Hid (numB ((R.drop (8 * j)).take 8) = numB R / 2 ^ k % 256) := hid_ (by
        rw [numB_mid R (8 * j) 8 (by omega)]
        have := HK.out
        rw [show R.length - (8 * j + 8) = k by omega])
      rw [HQ.out] at HPJ
      have HCV : Hid (IntKind.u8.wrap ((numB R : Int) / 2 ^ k) = ((numB R / 2 ^ k % 256 : Nat) : Int)) := hid_ (by rw [IntKind.wrap_u8']; simp)
      generalize numB R / 2 ^ k % 256 = y at *
      refine wp_region_ordp later_ext [0] [1, 2, 3, 4, 5, 6, 7, 8, 9, 10, 11, 12, 13, 14, 15, 16] 17 [18, 19, 20] (by kernel_rfl) (by kernel_rfl) ?_
      iterate 1 (refine lp_ex rfl (by rfl) ?_; apply Exists.intro; refine ⟨fun w => ?_, ?_⟩; · (go_simp; with_reducible rfl)
                 simp only [Act.put, List.setIfInBounds_toArray, List.set_cons_succ, List.set_cons_zero])
      refine lp_nil ?_
      iterate 15 (refine lo_ex rfl (by rfl) ?_; apply Exists.intro; refine ⟨fun w hw => ?_, ?_⟩; · (have h0 := HC0.out w hw; have h1 := HC1.out w hw; have h2 := HC2.out w hw; have h3 := HWR.out; have h5 := HCV.out; go_simp; with_reducible rfl)
                  simp only [Act.put, List.setIfInBounds_toArray, List.set_cons_succ, List.set_cons_zero])
      refine lo_alone rfl (by kernel_rfl) (by rfl) (fun w3 hw3 => ?_)
      go_simp
      refine ⟨(Ext.refl w3).alloc _, ?_⟩
      refine lo_nil ?_
      intro w4 hw4
      have hx4 : Ext wr w4 := ((((Ext.refl wr).drew).trans hw3).alloc (.cells #[.int .u8 (y : Int)] 5)).trans hw4
      have hB4 := hB.ext hx4
      have hown4 := own_ext0' hown hx4
      have hone := hid_ ((one_sl w3 5 (.int .u8 (y : Int))).ext hw4)
      have hz4 := hx4.size
      have hgw4 := hB4.lt
      clear HC0 HC1 HC2 HCV HWR hw3 hw4
      try simp only [List.filterMap_cons, List.filterMap_nil, List.getElem?_cons_succ, List.getElem?_cons_zero, List.getElem?_toArray]
      go_wp2_with (at_builtin; go_must (refine wpList_append_slf elt_u8 rfl _ _ rfl (gw + 1) (.slice A' (n0 + j) c') _ _ rfl hown4 _ 1 [.int .u8 _] rfl hone.out (u8_one _) (by omega) (by omega) (by omega) ?_); intro A7 c7 w7 hown7 hg7 hrow7; have hB7 := hB4.grown hg7 (own_ne hown4); have c0 := hB7.cell 0; have f0 := hB7.frozen 0; have c2 := hB7.cell 2; have f2 := hB7.frozen 2; rw [HK.out] at c2; simp only [List.getElem?_toArray, List.getElem?_cons_zero, List.getElem?_cons_succ] at c0 c2)
      simp only [onlyN]
      go_wp2_with fail
      go_roundw
      case rel =>
        have hb8 := (hB7.set_ 0 (.slice A7 (n0 + j + 1) c7)).set_ 2 (.int .i64 (k : Int))
        simp only [List.setIfInBounds_toArray, List.set_cons_zero, List.set_cons_succ] at hb8
        refine ⟨j + 1, A7, c7, by omega, ?_, ?_, ?_, ?_⟩
        · have e : ((R.length - 8 * (j + 1) : Nat) : Int) = (k : Int) := by have := HK.out; omega
          rw [e]
          exact hb8
        · rw [HPJ.out, ← List.append_assoc, bytesV_snoc]
          exact own_set (own_set hown7 0 _) 2 _
        · rw [own_map] at hrow7
          rcases hrow7 with h7 | h7
          · rw [h7]; exact hrow
          · exact .inr ⟨_, h7, by have := hu.size; omega⟩
        · have h8 := (hu.trans (Upd.of_ext (S := fun _ => False) hx4) (fun x hx => hx.elim)).grown hg7 (fun b hb => by
            rw [own_map] at hb
            rcases hrow with h9 | ⟨b', h9, h10⟩
            · exact .inl (.inr (h9 ▸ hb))
            · rw [h9] at hb
              injection hb with hb
              subst hb
              exact .inr h10)
          exact (h8.setCell (.inl rfl) _).setCell (.inl rfl) _
      case measure =>
        have hb8 := (hB7.set_ 0 (.slice A7 (n0 + j + 1) c7)).set_ 2 (.int .i64 (k : Int))
        simp only [List.setIfInBounds_toArray, List.set_cons_zero, List.set_cons_succ] at hb8
        rw [many_of hb8, many_of hB]
        have := HK.out
        omega
    · have hjj : j = R.length / 8 := by omega
      have hk : R.length - 8 * j = R.length % 8 := by omega
      rw [hk] at c2 hB
      have hk8 : R.length % 8 < 8 := by omega
      have HAN := hid_ (put_and R hRb)
      generalize hq : R.length % 8 = q at *
      clear hk
      go_wp2_with fail
      refine wp_region_lxt later_eq 11 (by kernel_rfl) (by kernel_rfl) ?_
      simp only [List.take_succ_cons, List.take_zero]
      iterate 11 (refine lx_ex (by rfl) ?_; apply Exists.intro; refine ⟨fun w hw => ?_, ?_⟩; · (subst hw; go_simp; with_reducible rfl)
                  simp only [Act.put, List.setIfInBounds_toArray, List.set_cons_succ, List.set_cons_zero])
      refine lx_nil ?_
      rintro w3 rfl
      rw [HAN.out]
      have f1 := hB.frozen 1
      try simp only [List.drop_succ_cons, List.drop_zero]
      go_wp2_with fail
      go_end0
      have hb8 := hB.drew.set_ 1 (.int .u64 (numB (restB R) : Nat))
      simp only [List.setIfInBounds_toArray, List.set_cons_zero, List.set_cons_succ] at hb8
      refine ⟨rfl, A'.map (·.block), ⟨A', c', rfl, ?_, ?_⟩, hrow, hu.drew.setCell (.inl rfl) _⟩
      · have e1 : (L ++ digs value width).length / 8 = n0 + j := by have := HPL.out; have := Hm.out; have := Hn.out; have := HRL.out; omega
        have e2 : (L ++ digs value width).length % 8 = q := by have := HPL.out; have := Hm.out; have := Hn.out; have := HRL.out; omega
        rw [e1, e2, HRA.out]
        exact hb8
      · have e1 : (L ++ digs value width).length / 8 = n0 + j := by have := HPL.out; have := Hm.out; have := Hn.out; have := HRL.out; omega
        rw [e1, HPA.out]
        have e3 : (packB R).take j = packB R := List.take_of_length_le (by rw [packB_len]; omega)
        rw [e3] at hown
        exact own_set (w := wr.drew) hown 1 _
theorem own_out' {w : World} {base : Nat} {e : TypeId} {size n c : Nat} {A : Option Addr} {xs : List Value} (h : w.ownsRow base e size (.slice A n c) n xs) : SL w size (.slice A n c) n xs ∧ ∀ ad, A = some ad → base ≤ ad.block := by
  obtain ⟨B, d, e1, h1, h2⟩ := own_form h
  injection e1 with e1 e2 e3
  subst e1 e3
  exact ⟨h1, h2⟩
theorem WrS.nil (w : World) (gw : Nat) (h : Blk w gw 57 #[.slice none 0 0, .int .u64 0, .int .i64 0]) : WrS w gw [] none :=
  ⟨none, 0, rfl, h, World.ownsRow_nil _ _ _ _⟩
theorem WrS.ext {w w' : World} {gw : Nat} {L : List Bool} {r : Option Nat} (h : WrS w gw L r) (hx : Ext w w') : WrS w' gw L r := by
  obtain ⟨A, c, h1, h2, h3⟩ := h
  exact ⟨A, c, h1, h2.ext hx, own_ext0' h3 hx⟩
theorem WrS.lt {w : World} {gw : Nat} {L : List Bool} {r : Option Nat} (h : WrS w gw L r) : gw < w.heap.size := by
  obtain ⟨A, c, h1, h2, h3⟩ := h
  exact h2.lt
theorem WrS.row {w : World} {gw : Nat} {L : List Bool} {r : Option Nat} (h : WrS w gw L r) : ∀ b, r = some b → gw < b ∧ b < w.heap.size := by
  obtain ⟨A, c, h1, h2, h3⟩ := h
  intro b hb
  subst h1
  have := h3.lt b (by rw [own_map]; exact hb)
  omega
theorem WrS.drew {w : World} {gw : Nat} {L : List Bool} {r : Option Nat} (h : WrS w gw L r) : WrS w.drew gw L r := h
/-- the writer is untouched where its blocks are -/
theorem WrS.upd {S : Nat → Prop} {w w' : World} {gw : Nat} {L : List Bool} {r : Option Nat} (h : WrS w gw L r) (hu : Upd S w w') (h1 : ¬ S gw) (h2 : ∀ b, r = some b → ¬ S b) : WrS w' gw L r := by
  have hrow := h.row
  obtain ⟨A, c, e1, hB, hown⟩ := h
  refine ⟨A, c, e1, (hu.block gw hB.lt h1).trans hB, hown.1, ?_⟩
  rcases hown.2 with ⟨h0, h0'⟩ | ⟨g, cap, cur, e2, h3, hg, h4⟩
  · exact .inl ⟨h0, h0'⟩
  · have hr : r = some g := by
      rw [e1]
      injection e2 with e2 _ _
      rw [e2]
      rfl
    exact .inr ⟨g, cap, cur, e2, h3, (hu.block g (hrow g hr).2 (h2 g hr)).trans hg, h4⟩
end Go.Proofs.YtgmddhljgfbibaaDoor
/- The word of a symbol, in plain words. -/
namespace Go.Proofs.YtgmddhljgfbibaaDoor
set_option linter.unusedVariables false
set_option linter.unusedSimpArgs false
open Go.RowKit
theorem outW_at (cs : List Int) (k : Nat) (h : k < (codesW cs 16).length) : (strs (outW cs 16))[k]? = some (.string (strB (digs (codesW cs 16)[k].2 (codesW cs 16)[k].1))) := by
  unfold strs
  rw [outW_codes]
  simp [h, binS_strB]
theorem outW_len (cs : List Int) : (outW cs 16).length = (codesW cs 16).length := by rw [outW_codes]; simp
theorem zipC_at (C : List (Nat × Nat)) (xs : List Int) (k : Nat) (h1 : k < C.length) (h2 : k < xs.length) (h : k < (zipC C xs).length) : (zipC C xs)[k] = (xs[k], ((C[k]).1 : Int), ((C[k]).2 : Int)) := by
  simp [zipC]
def findT (T : List Tok) (s : Int) : Option Tok := T.find? (fun t => t.1 == s)
/-- the digits of a symbol's word -/
def bitsT (T : List Tok) (s : Int) : List Bool := match findT T s with | some t => digs t.2.2.toNat t.2.1.toNat | none => []
/-- the words of a table fit -/
def FitT (T : List Tok) : Prop := ∀ s t, findT T s = some t → ∃ long code : Nat, t = (s, (long : Int), (code : Int)) ∧ 1 ≤ long ∧ long ≤ 16 ∧ code < 2 ^ long
theorem fitT_of (cs xs : List Int) (hl : cs.length = 16) (h : checkZ cs xs = 0) : FitT (zipC (codesW cs 16) xs) := by
  obtain ⟨q1, q2, q3, q4, q5, q6⟩ := checkZ_zero h
  have hfit := codesW_fit cs q4 hl 16 (by omega)
  intro s t ht
  have hm := List.mem_of_find?_eq_some ht
  have hs := List.find?_some ht
  simp only [beq_iff_eq] at hs
  unfold zipC at hm
  obtain ⟨i, hi, rfl⟩ := List.mem_iff_getElem.1 hm
  simp only [List.getElem_zipWith] at hs ⊢
  simp only [List.length_zipWith] at hi
  obtain ⟨f1, f2, f3⟩ := hfit _ (List.getElem_mem (show i < (codesW cs 16).length by omega))
  exact ⟨_, _, by rw [hs], f1, f2, by omega⟩
theorem bitsT_some {T : List Tok} {s : Int} {long code : Nat} (h : findT T s = some (s, (long : Int), (code : Int))) : bitsT T s = digs code long := by
  unfold bitsT; rw [h]; simp
theorem bitsT_len {T : List Tok} (hf : FitT T) (s : Int) : (bitsT T s).length ≤ 16 := by
  unfold bitsT
  cases h : findT T s with
  | none => simp
  | some t =>
    obtain ⟨long, code, rfl, h1, h2, h3⟩ := hf s t h
    simp [digs_len]
    omega
theorem zipC_syms (C : List (Nat × Nat)) (xs : List Int) (h : C.length = xs.length) : (zipC C xs).map (·.1) = xs := by
  induction C generalizing xs with
  | nil => cases xs with | nil => rfl | cons _ _ => simp at h
  | cons c C ih =>
    cases xs with
    | nil => simp at h
    | cons x xs =>
      have h' : C.length = xs.length := by simpa using h
      have := ih xs h'
      simp only [zipC, List.zipWith_cons_cons, List.map_cons] at this ⊢
      rw [this]
theorem findT_none {Z : List Tok} {s : Int} (h : s ∉ Z.map (·.1)) : findT Z s = none := by
  unfold findT
  rw [List.find?_eq_none]
  intro u hu
  simp only [beq_iff_eq]
  rintro rfl
  exact h (List.mem_map.2 ⟨u, hu, rfl⟩)
theorem findT_at {Z : List Tok} {s : Int} {k : Nat} (hk : k < Z.length) (h : s ∉ (Z.map (·.1)).take k) (h2 : (Z[k]).1 = s) : findT Z s = some Z[k] := by
  unfold findT
  rw [List.find?_eq_some_iff_getElem]
  refine ⟨by simpa using h2, k, hk, rfl, fun j hj => ?_⟩
  simp only [Bool.not_eq_true', beq_eq_false_iff_ne]
  intro h3
  apply h
  rw [← h3, List.mem_take_iff_getElem]
  exact ⟨j, by simp; omega, by simp⟩
end Go.Proofs.YtgmddhljgfbibaaDoor
/- What a coder holds, in plain words. -/
namespace Go.Proofs.YtgmddhljgfbibaaDoor
set_option linter.unusedVariables false
set_option linter.unusedSimpArgs false
open Go.RowKit Go.Maps Go.WideMaps
def symF (T : List Tok) (s : Int) : Option Value := (T.find? (fun t => t.1 == s)).map (fun t => Value.agg #[.int .i64 t.1, .int .i64 t.2.1, .int .i64 t.2.2])
def codeF (T : List Tok) (p : Int × Int) : Option Value := (T.find? (fun t => t.2.1 == p.1 && t.2.2 == p.2)).map (fun t => Value.int .i64 t.1)
theorem symF_snoc_same (T : List Tok) (t : Tok) (h : ∀ u ∈ T, u.1 ≠ t.1) : symF (T ++ [t]) t.1 = some (.agg #[.int .i64 t.1, .int .i64 t.2.1, .int .i64 t.2.2]) := by
  have h1 : T.find? (fun u => u.1 == t.1) = none := by
    rw [List.find?_eq_none]
    intro u hu
    simpa using h u hu
  unfold symF
  rw [List.find?_append, h1]
  simp
theorem symF_snoc_other (T : List Tok) (t : Tok) (s : Int) (h : s ≠ t.1) : symF (T ++ [t]) s = symF T s := by
  have h1 : [t].find? (fun u => u.1 == s) = none := by
    rw [List.find?_eq_none]
    intro u hu
    have : u = t := by simpa using hu
    subst this
    simpa using fun h2 => h h2.symm
  unfold symF
  rw [List.find?_append, h1, Option.or_none]
theorem codeF_snoc_same (T : List Tok) (t : Tok) (h : ∀ u ∈ T, u.2 ≠ t.2) : codeF (T ++ [t]) (t.2.1, t.2.2) = some (.int .i64 t.1) := by
  have h1 : T.find? (fun u => u.2.1 == t.2.1 && u.2.2 == t.2.2) = none := by
    rw [List.find?_eq_none]
    intro u hu
    have := h u hu
    simp only [Bool.and_eq_true, beq_iff_eq]
    exact fun h2 => this (Prod.ext h2.1 h2.2)
  unfold codeF
  rw [List.find?_append, h1]
  simp
theorem codeF_snoc_other (T : List Tok) (t : Tok) (p : Int × Int) (h : p ≠ t.2) : codeF (T ++ [t]) p = codeF T p := by
  have h1 : [t].find? (fun u => u.2.1 == p.1 && u.2.2 == p.2) = none := by
    rw [List.find?_eq_none]
    intro u hu
    have : u = t := by simpa using hu
    subst this
    simp only [Bool.and_eq_true, beq_iff_eq]
    exact fun h2 => h (Prod.ext h2.1.symm h2.2.symm)
  unfold codeF
  rw [List.find?_append, h1, Option.or_none]
theorem arrKey2 : ArrKey Tryd.prog 150 3 2 := ⟨Tryd.underlying150, by kernel_rfl, by kernel_rfl, by kernel_rfl⟩
theorem typesPos : ∃ m, Tryd.prog.types.size = m + 1 := ⟨Tryd.prog.types.size - 1, by have : 0 < Tryd.prog.types.size := of_decide_eq_true (by kernel_rfl); omega⟩
theorem keyed_pair : Keyed Tryd.prog 150 := Keyed.of_law (ArrKey.law arrKey2)
def klP (p : Int × Int) : Lit := .string (keyBytes [.int .i64 p.1, .int .i64 p.2])
def okP (p : Int × Int) : Prop := (-9223372036854775808 ≤ p.1 ∧ p.1 ≤ 9223372036854775807) ∧ (-9223372036854775808 ≤ p.2 ∧ p.2 ≤ 9223372036854775807)
theorem keyOf_P (p : Int × Int) (h : okP p) : keyOf Tryd.prog 150 (.agg #[.int .i64 p.1, .int .i64 p.2]) = some (klP p) :=
  keyOf_pair arrKey2 Tryd.underlying3 typesPos (WalkArith.wf_i64 h.1) (WalkArith.wf_i64 h.2)
theorem klP_inj {p q : Int × Int} (hp : okP p) (hq : okP q) (h : klP p = klP q) : p = q := by
  have h1 := keyOf_P p hp
  have h2 := keyOf_P q hq
  rw [← h] at h2
  have := keyed_pair.inj h1 h2
  simp at this
  exact Prod.ext this.1 this.2
abbrev MapP (w : World) (b n : Nat) (g : Int × Int → Option Value) : Prop := MapG Tryd.prog 150 klP okP w b n g
/-- a coder that knows the words T -/
def CoderS (w : World) (gc : Nat) (T : List Tok) : Prop :=
  ∃ m1 m2 n, Blk w gc 122 #[.map (some m1), .map (some m2)] ∧ MapI Tryd.prog 3 w m1 n (symF T) ∧ MapP w m2 n (codeF T)
theorem CoderS.ext {w w' : World} {gc : Nat} {T : List Tok} (h : CoderS w gc T) (hx : Ext w w') : CoderS w' gc T := by
  obtain ⟨m1, m2, n, a, b, c⟩ := h
  exact ⟨m1, m2, n, a.ext hx, b.ext hx, c.ext hx⟩
theorem CoderS.below {B : Nat} {w w' : World} {gc : Nat} {T : List Tok} (h : CoderS w gc T) (hB : w.heap.size ≤ B) (hx : Below B w w') : CoderS w' gc T := by
  obtain ⟨m1, m2, n, a, b, c⟩ := h
  exact ⟨m1, m2, n, a.below hx (Nat.lt_of_lt_of_le a.lt hB), b.below hx (Nat.lt_of_lt_of_le b.lt hB), c.below hx (Nat.lt_of_lt_of_le c.lt hB)⟩
/-- words differ -/
theorem codesW_nodup (cs : List Int) : ∀ k, (codesW cs k).Nodup ∧ ∀ p ∈ codesW cs k, p.1 ≤ k := by
  intro k
  induction k with
  | zero => rw [codesW_zero]; simp
  | succ k ih =>
    rw [show codesW cs (k + 1) = codesW cs k ++ rowC cs k (cs.getD k 0).toNat from codesW_succ cs k]
    have hrow : ∀ n, (rowC cs k n).Nodup := by
      intro n
      unfold rowC
      refine List.Pairwise.map _ ?_ List.nodup_range
      intro a b hab h
      have := (Prod.mk.inj h).2
      omega
    refine ⟨List.nodup_append.2 ⟨ih.1, hrow _, ?_⟩, ?_⟩
    · intro p hp q hq
      have h1 := ih.2 p hp
      simp only [rowC, List.mem_map, List.mem_range] at hq
      obtain ⟨i, _, rfl⟩ := hq
      rintro rfl
      simp at h1
      omega
    · intro p hp
      rcases List.mem_append.1 hp with h | h
      · have := ih.2 p h; omega
      · simp only [rowC, List.mem_map, List.mem_range] at h
        obtain ⟨i, _, rfl⟩ := h
        simp
theorem take_mem {α : Type} {l : List α} {k : Nat} {x : α} (h : x ∈ l.take k) : ∃ j, ∃ hj : j < l.length, j < k ∧ x = l[j] := by
  obtain ⟨j, hj, rfl⟩ := List.mem_iff_getElem.1 h
  simp at hj
  exact ⟨j, by omega, by omega, by simp⟩
theorem nodup_at {α : Type} {l : List α} (h : l.Nodup) {i j : Nat} (hi : i < l.length) (hj : j < l.length) (hij : i ≠ j) : l[i] ≠ l[j] := fun e => hij ((List.getElem_inj h).1 e)
theorem zipC_apart (cs xs : List Int) (hxs : xs.Nodup) (hl : (codesW cs 16).length = xs.length) (k : Nat) (hk : k < (zipC (codesW cs 16) xs).length) :
    (∀ u ∈ (zipC (codesW cs 16) xs).take k, u.1 ≠ ((zipC (codesW cs 16) xs)[k]).1) ∧ (∀ u ∈ (zipC (codesW cs 16) xs).take k, u.2 ≠ ((zipC (codesW cs 16) xs)[k]).2) := by
  have hz : (zipC (codesW cs 16) xs).length = xs.length := by rw [zipC_len _ _ (by omega), hl]
  have hn := (codesW_nodup cs 16).1
  generalize codesW cs 16 = C at *
  constructor
  · intro u hu
    obtain ⟨j, hj, hjk, rfl⟩ := take_mem hu
    rw [zipC_at C xs j (by omega) (by omega), zipC_at C xs k (by omega) (by omega)]
    exact nodup_at hxs _ _ (by omega)
  · intro u hu
    obtain ⟨j, hj, hjk, rfl⟩ := take_mem hu
    rw [zipC_at C xs j (by omega) (by omega), zipC_at C xs k (by omega) (by omega)]
    intro h
    have h1 := (Prod.mk.inj h).1
    have h2 := (Prod.mk.inj h).2
    exact nodup_at hn (i := j) (j := k) (by omega) (by omega) (by omega) (Prod.ext (by omega) (by omega))
theorem toks_take_succ (Z : List Tok) (k : Nat) (h : k < Z.length) : Z.take (k + 1) = Z.take k ++ [Z[k]] := List.take_succ_eq_append_getElem h
end Go.Proofs.YtgmddhljgfbibaaDoor
/- table.NewCoder, Coder.Put. -/
namespace Go.Proofs.YtgmddhljgfbibaaDoor
set_option linter.unusedVariables false
set_option linter.unusedSimpArgs false
open Go.RowKit Go.Maps Go.WideMaps
set_option maxRecDepth 20000 in
set_option maxHeartbeats 1000000 in
theorem newCoder_any (cs xs : List Int) (sl : Value) (w : World) (hl : cs.length = 16) (hs : SL w 1 sl xs.length (ints xs)) (h : checkZ cs xs = 0) :
    Calls Tryd.prog 54 #[.agg (tblv cs sl)] w fun e w' => ∃ gc, e = .returned (.pointer (some ⟨gc, 0, none⟩)) ∧ CoderS w' gc (zipC (codesW cs 16) xs) ∧ Ext w w' := by
  obtain ⟨q1, q2, q3, q4, q5, q6⟩ := checkZ_zero h
  have HW := hid_ (fun W h => words_any cs xs sl W hl h q1 q4 q2 q3)
  have hts := hid_ (tblv_size cs sl hl)
  have hlen : (codesW cs 16).length = xs.length := by have := codesW_len cs (fun z hz => (allIn_iff.1 q1 z hz).1) 16 (by omega); omega
  have hZl : (zipC (codesW cs 16) xs).length = xs.length := by rw [zipC_len _ _ (by omega), hlen]
  have HAP := hid_ (zipC_apart cs xs q6 hlen)
  have HFIT := hid_ (codesW_fit cs q4 hl 16 (by omega))
  have HIN := hid_ (allIn_iff.1 q5)
  have HAT := hid_ (fun k (h1 : k < (codesW cs 16).length) (h2 : k < xs.length) hk => zipC_at (codesW cs 16) xs k h1 h2 hk)
  have hmm := @run_makeMap Tryd.prog
  generalize tblv cs sl = tv at *
  have HBD : Hid (∀ k (hk : k < (zipC (codesW cs 16) xs).length), 0 ≤ ((zipC (codesW cs 16) xs)[k]).1 ∧ ((zipC (codesW cs 16) xs)[k]).1 ≤ 255 ∧ okP ((zipC (codesW cs 16) xs)[k]).2) := hid_ (fun k hk => by
    have hk1 : k < (codesW cs 16).length := by omega
    have hk2 : k < xs.length := by omega
    rw [HAT.out k hk1 hk2 hk]
    have h1 := HIN.out _ (List.getElem_mem hk2)
    obtain ⟨f1, f2, f3⟩ := HFIT.out _ (List.getElem_mem hk1)
    have h2 := Nat.pow_le_pow_right (n := 2) (by omega) f2
    refine ⟨h1.1, h1.2, ⟨by simp only; omega, by simp only; omega⟩, by simp only; omega, by simp only; omega⟩)
  clear HAT HIN HFIT hlen
  generalize zipC (codesW cs 16) xs = Z at *
  have HZL := hid_ hZl
  clear h q1 q2 q4 q5 q6 hZl
  go_enter Tryd.func54, Tryd.ntmps54
  go_wp2_with (first
    | (refine wpList_box_abs rfl 32 (.tmp 0) rfl tv rfl ?_; intro w1 g hb1 hx1 hg; have hs1 := hs.ext hx1)
    | (refine wpList_box_abs rfl 122 (.tmp 8) rfl _ rfl ?_; intro w3 gc hbc hx3 hgc; have hb3 := ((hb1.alloc (.map #[] 0)).alloc (.map #[] 0)).ext hx3; have hs3 := (hs1.ext (((Ext.refl w1).alloc (.map #[] 0)).alloc (.map #[] 0))).ext hx3)
    | (refine wpList_load_blk rfl 32 (.tmp 1) rfl _ rfl hb3 _ Tryd.underlying32 rfl 17 sizeTbl hts.out ?_)
    | (go_at_call 78; (with_reducible refine (HW.out _ hs3).mono ?_); rintro e w4 ⟨A, c, rfl, hsl, hfr, hx4⟩))
  have hm1 : MapI Tryd.prog 3 w4 w1.heap.size 0 (symF []) := (((MapG.made w1).alloc (.map #[] 0)).ext hx3).ext hx4
  have hm2 : MapP w4 (w1.heap.size + 1) 0 (codeF []) := by
    have := (((MapG.made (P := Tryd.prog) (k := 150) (kl := klP) (ok := okP) (w1.alloc (.map #[] 0))).ext hx3).ext hx4)
    rwa [World.size_alloc] at this
  have hbc4 := hbc.ext hx4
  have hxw : Ext w w4 := ((((hx1.alloc (.map #[] 0)).alloc (.map #[] 0)).trans hx3).trans hx4)
  have hz1 := hx1.size
  have hz3 := hx3.size
  simp only [World.size_alloc] at hz3 hgc
  have hz4 := hx4.size
  have hc1 : xs.length ≤ c ∧ c ≤ 9223372036854775807 := by obtain ⟨A', c', e, h1, h2, -⟩ := hsl; injection e with e1 e2 e3; subst e3; exact ⟨h1, h2⟩
  obtain ⟨hc1, hc2⟩ := hc1
  generalize hM : w1.heap.size = M at *
  clear hM hmm hb1 hb3 hs1 hs3 hbc hx1 hx3 hx4 hs
  go_loopw [13] (fun i wr => ∃ k : Nat, k ≤ xs.length ∧ i = .int .i64 (k : Int) ∧ MapI Tryd.prog 3 wr M k (symF (Z.take k)) ∧ MapP wr (M + 1) k (codeF (Z.take k)) ∧ Upd (fun b => b = M ∨ b = M + 1) w4 wr) (fun i _ => xs.length - (intOf i).toNat)
  case atStart => exact ⟨0, by omega, rfl, hm1, hm2, Upd.refl _ _⟩
  case round =>
    clear hm1 hm2
    obtain ⟨k, hk, rfl, hm1, hm2, hu⟩ := hrel
    by_cases hlt : k < xs.length
    · have hkZ : k < Z.length := by have := HZL.out; omega
      have hslr := hsl.upd hu (fun ad h => by have := hfr ad h; omega)
      obtain ⟨ad, rfl, hbl, h1, h2, h3⟩ := hslr.tok hlt HZL.out hkZ
      have hbcr := hu.blk hbc4 (by omega)
      obtain ⟨a1, a2⟩ := HAP.out k hkZ
      obtain ⟨b1, b2, b3⟩ := HBD.out k hkZ
      have HS1 := hid_ (symF_snoc_same (Z.take k) Z[k] a1)
      have HS2 := hid_ (fun s => symF_snoc_other (Z.take k) Z[k] s)
      have HC1 := hid_ (codeF_snoc_same (Z.take k) Z[k] a2)
      have HC2 := hid_ (fun p => codeF_snoc_other (Z.take k) Z[k] p)
      have HTS := hid_ (toks_take_succ Z k hkZ)
      generalize Z[k] = t at *
      obtain ⟨t1, t2, t3⟩ := t
      simp only at b1 b2
      clear a1 a2
      have hkey1 := hid_ (keyOf_i64 (P := Tryd.prog) Tryd.underlying3 (a := t1) (by omega) (by omega))
      have hkey2 := hid_ (keyOf_P (t2, t3) b3)
      have HB3 := hid_ b3
      clear b3
      simp only at h1 h2 h3
      go_wp2_with fail
      have hn := Blk.new wr 117 #[.int .i64 t1, .int .i64 t2, .int .i64 t3]
      have hxa := Ext.alloc (Ext.refl wr) (.cells #[.int .i64 t1, .int .i64 t2, .int .i64 t3] 117)
      have hm1a := hm1.alloc (.cells #[.int .i64 t1, .int .i64 t2, .int .i64 t3] 117)
      have hm2a := hm2.alloc (.cells #[.int .i64 t1, .int .i64 t2, .int .i64 t3] 117)
      have hbca := hbcr.ext hxa
      have hua := hu.trans (Upd.of_ext (S := fun _ => False) hxa) (fun x hx => hx.elim)
      have hnz : wr.heap.size ≠ M ∧ wr.heap.size ≠ M + 1 := by have := hm1.lt; have := hm2.lt; omega
      generalize hw2 : wr.alloc (.cells #[.int .i64 t1, .int .i64 t2, .int .i64 t3] 117) = w5 at *
      generalize wr.heap.size = gn at *
      clear hw2 h1 h2 h3 hxa hm1 hm2 hbcr hu hslr
      have hcv : ∀ W, Blk W gn 117 #[.int .i64 t1, .int .i64 t2, .int .i64 t3] → W.cell? ⟨gn, 0, none⟩ = some (.int .i64 t1) ∧ W.cell? ⟨gn, 1, none⟩ = some (.int .i64 t2) ∧ W.cell? ⟨gn, 2, none⟩ = some (.int .i64 t3) := fun W h => ⟨h.cell 0, h.cell 1, h.cell 2⟩
      have hcc : ∀ W, Blk W gc 122 #[.map (some M), .map (some (M + 1))] → W.cell? ⟨gc, 0, none⟩ = some (.map (some M)) ∧ W.cell? ⟨gc, 1, none⟩ = some (.map (some (M + 1))) := fun W h => ⟨h.cell 0, h.cell 1⟩
      have HCV := hid_ hcv
      have HCC := hid_ hcc
      clear hcv hcc
      obtain ⟨n1, n2, n3⟩ := HCV.out _ hn
      obtain ⟨g1, g2⟩ := HCC.out _ hbca
      refine wp_region_lxt later_eq 7 (by kernel_rfl) (by kernel_rfl) ?_
      simp only [List.take_succ_cons, List.take_zero]
      iterate 7 (refine lx_ex (by rfl) ?_; apply Exists.intro; refine ⟨fun w hw => ?_, ?_⟩; · (subst hw; go_simp; with_reducible rfl)
                 simp only [Act.put, List.setIfInBounds_toArray, List.set_cons_succ, List.set_cons_zero])
      refine lx_nil ?_
      rintro w6 rfl
      try simp only [List.drop_succ_cons, List.drop_zero]
      clear n1 n2 n3 g1 g2
      have hm1d := hm1a.ext (w' := w5.drew) (Ext.refl w5).drew
      have hm2d := hm2a.ext (w' := w5.drew) (Ext.refl w5).drew
      go_wp2_with (at_mapUpdate; refine wpList_upd_g (by rfl) _ _ _ 119 117 rfl keyed_int Tryd.underlying119 rfl hm1d (by omega) _ rfl _ rfl t1 hkey1.out (symF (Z.take k ++ [(t1, t2, t3)])) HS1.out (fun j _ hj => HS2.out j (fun e => hj (by rw [e]))) (fun j _ hj => by injection hj) ?_; intro w7 hm7 hg7)
      have hn7 := hn.drew.grown hg7 (by simp; omega)
      have hb7 := hbca.drew.grown hg7 (by simp; omega)
      have hm27 := hm2d.grown hg7 (by simp)
      have hu7 := hua.drew.grown hg7 (fun b hb => .inl (by injection hb with hb; exact .inl hb.symm))
      obtain ⟨n1, n2, n3⟩ := HCV.out _ hn7
      obtain ⟨g1, g2⟩ := HCC.out _ hb7
      clear hm1d hm2d hm1a hm2a hua hg7
      simp only [Act.put, List.setIfInBounds_toArray, List.set_cons_succ, List.set_cons_zero]
      refine wp_region_lxt later_eq 11 (by kernel_rfl) (by kernel_rfl) ?_
      simp only [List.take_succ_cons, List.take_zero]
      iterate 11 (refine lx_ex (by rfl) ?_; apply Exists.intro; refine ⟨fun w hw => ?_, ?_⟩; · (subst hw; go_simp; with_reducible rfl)
                  simp only [Act.put, List.setIfInBounds_toArray, List.set_cons_succ, List.set_cons_zero])
      refine lx_nil ?_
      rintro w8 rfl
      try simp only [List.drop_succ_cons, List.drop_zero]
      clear n1 n2 n3 g1 g2
      have hm2e := hm27.ext (w' := w7.drew) (Ext.refl w7).drew
      have hm1e := hm7.ext (w' := w7.drew) (Ext.refl w7).drew
      go_wp2_with (at_mapUpdate; refine wpList_upd_g (by rfl) _ _ _ 120 3 rfl keyed_pair Tryd.underlying120 rfl hm2e (by omega) _ rfl _ rfl (t2, t3) hkey2.out (codeF (Z.take k ++ [(t1, t2, t3)])) HC1.out (fun j hj0 hj => HC2.out j (fun e => hj (by rw [e]))) (fun j hj0 hj => klP_inj hj0 HB3.out hj) ?_; intro w9 hm9 hg9)
      go_roundw
      case rel =>
        refine ⟨k + 1, by omega, by go_num, ?_, ?_, ?_⟩
        · rw [HTS.out]; exact hm1e.grown hg9 (by simp)
        · rw [HTS.out]; exact hm9
        · exact hu7.drew.grown hg9 (fun b hb => .inl (by injection hb with hb; exact .inr hb.symm))
      case measure => simp [intOf]; omega
    · have ek : k = xs.length := by omega
      have HF : Hid (Z.take k = Z) := hid_ (List.take_of_length_le (by have := HZL.out; omega))
      rw [HF.out] at hm1 hm2
      go_wp2_with fail
      go_ret
      exact ⟨gc, rfl, ⟨M, M + 1, k, hu.blk hbc4 (by omega), hm1, hm2⟩, hu.ext hxw (by omega)⟩
end Go.Proofs.YtgmddhljgfbibaaDoor
/- bits.Writer.Bytes. -/
namespace Go.Proofs.YtgmddhljgfbibaaDoor
set_option linter.unusedVariables false
set_option linter.unusedSimpArgs false
open Go.RowKit
theorem padB_zero {L : List Bool} (h : L.length % 8 = 0) : padB L = L := by simp [padB, h]
theorem padB_digs {L : List Bool} {k : Nat} (h : L.length % 8 + k = 8) (h2 : 0 < L.length % 8) : padB L = L ++ digs (2 ^ k - 1) k := by
  rw [digs_ones]
  unfold padB
  congr 2
  omega
theorem own_nilc {w : World} {base : Nat} {e : TypeId} {size n d : Nat} {B : Option Addr} {xs : List Value} (h : w.ownsRow base e size (.slice B n d) n xs) : B = none → d = 0 := by
  rintro rfl
  obtain ⟨-, hh⟩ := h
  rcases hh with ⟨e1, -⟩ | ⟨g, cap, cur, e1, -⟩
  · injection e1
  · injection e1 with e2
    cases e2
set_option maxRecDepth 20000 in
set_option maxHeartbeats 1000000 in
theorem bytes_anyN (gw : Nat) (L : List Bool) (r : Option Nat) (w : World) (h : WrS w gw L r) (hl : L.length ≤ 1000000000000) :
    Calls Tryd.prog 28 #[.pointer (some ⟨gw, 0, none⟩)] w fun e w' => ∃ A c, e = .returned (.slice A (packB (padB L)).length c) ∧ SL w' 1 (.slice A (packB (padB L)).length c) (packB (padB L)).length (bytesV (packB (padB L))) ∧
      (∀ ad, A = some ad → gw < ad.block) ∧ (A = none → c = 0) ∧ Upd (fun b => b = gw ∨ r = some b) w w' := by
  by_cases hm0 : L.length % 8 = 0
  · rw [padB_zero hm0]
    obtain ⟨A, c, hr, hB, hown⟩ := h
    have HPL := hid_ (packB_len L)
    rw [hm0] at hB
    generalize packB L = T at *
    generalize L.length / 8 = n at *
    have c0 := hB.cell 0
    have c2 := hB.cell 2
    simp only [List.getElem?_toArray, List.getElem?_cons_zero, List.getElem?_cons_succ] at c0 c2
    clear hm0
    go_enter Tryd.func28, Tryd.ntmps28
    go_wp2_with fail
    go_ret
    rw [HPL.out]
    obtain ⟨h1, h2⟩ := own_out' hown
    exact ⟨A, c, rfl, h1, (fun ad h => by have := h2 ad h; omega), own_nilc hown, Upd.refl _ _⟩
  · have hw := h
    obtain ⟨A, c, hr, hB, hown⟩ := h
    obtain ⟨k, hk⟩ : ∃ k, L.length % 8 + k = 8 := ⟨8 - L.length % 8, by omega⟩
    rw [padB_digs hk (by omega)]
    have hPk := Nat.two_pow_pos k
    have hP8 : (2 : Nat) ^ k ≤ 2 ^ 8 := Nat.pow_le_pow_right (by omega) (by omega)
    have HPUT := hid_ (fun W (hW : WrS W gw L r) => put_any gw L r (2 ^ k - 1) k W hW (by omega) (by omega) hl)
    have HW1 : Hid (IntKind.i64.wrap (8 - ((L.length % 8 : Nat) : Int)) = (k : Int)) := hid_ (by rw [IntWalk.i64_in _ (by omega)]; omega)
    have HW2 : Hid (IntKind.i64.wrap ((2 : Int) ^ k) = ((2 ^ k : Nat) : Int)) := hid_ (by
      have : ((2 : Int) ^ k) = ((2 ^ k : Nat) : Int) := by push_cast; rfl
      rw [this, IntWalk.i64_in _ (by omega)])
    have HW3 : Hid (IntKind.i64.wrap (((2 ^ k : Nat) : Int) - 1) = ((2 ^ k - 1 : Nat) : Int)) := hid_ (by rw [IntWalk.i64_in _ (by omega)]; omega)
    have c0 := hB.cell 0
    have c2 := hB.cell 2
    simp only [List.getElem?_toArray, List.getElem?_cons_zero, List.getElem?_cons_succ] at c0 c2
    have HL8 := hid_ (packB_len (L ++ digs (2 ^ k - 1) k))
    generalize L ++ digs (2 ^ k - 1) k = L' at *
    generalize (2 : Nat) ^ k - 1 = p1 at *
    generalize hP : (2 : Nat) ^ k = P at *
    have hm1 : 0 < L.length % 8 := by omega
    generalize L.length % 8 = m at *
    clear hm0 hP hown hB hr
    go_enter Tryd.func28, Tryd.ntmps28
    go_wp2_with fail
    refine wp_region_lxt later_eq 13 (by kernel_rfl) (by kernel_rfl) ?_
    simp only [List.take_succ_cons, List.take_zero]
    iterate 13 (refine lx_ex (by rfl) ?_; apply Exists.intro; refine ⟨fun w hw => ?_, ?_⟩; · (subst hw; have h1 := HW1.out; have h2 := HW2.out; have h3 := HW3.out; go_simp; with_reducible rfl)
                simp only [Act.put, List.setIfInBounds_toArray, List.set_cons_succ, List.set_cons_zero])
    refine lx_nil ?_
    rintro w3 rfl
    try simp only [List.drop_succ_cons, List.drop_zero]
    have hwd := hw.drew
    clear c0 c2 HW1 HW2 HW3
    go_wp2_with (go_at_call 27; (with_reducible refine (HPUT.out _ hwd).mono ?_); rintro e w5 ⟨rfl, r', ⟨A5, c5, hr5, hB5, hown5⟩, hrr, hu5⟩; have c0 := hB5.cell 0; simp only [List.getElem?_toArray, List.getElem?_cons_zero] at c0)
    go_ret
    obtain ⟨h1, h2⟩ := own_out' hown5
    rw [HL8.out]
    exact ⟨A5, c5, rfl, h1, (fun ad h => by have := h2 ad h; omega), own_nilc hown5, (Upd.refl _ w).drew.trans hu5 (fun x hx => .inl hx)⟩
theorem bytes_any (gw : Nat) (L : List Bool) (r : Option Nat) (w : World) (h : WrS w gw L r) (hl : L.length ≤ 1000000000000) :
    Calls Tryd.prog 28 #[.pointer (some ⟨gw, 0, none⟩)] w fun e w' => ∃ A c, e = .returned (.slice A (packB (padB L)).length c) ∧ SL w' 1 (.slice A (packB (padB L)).length c) (packB (padB L)).length (bytesV (packB (padB L))) ∧
      (∀ ad, A = some ad → gw < ad.block) ∧ Upd (fun b => b = gw ∨ r = some b) w w' :=
  (bytes_anyN gw L r w h hl).mono fun _ _ ⟨A, c, e, h1, h2, _, h3⟩ => ⟨A, c, e, h1, h2, h3⟩
end Go.Proofs.YtgmddhljgfbibaaDoor
