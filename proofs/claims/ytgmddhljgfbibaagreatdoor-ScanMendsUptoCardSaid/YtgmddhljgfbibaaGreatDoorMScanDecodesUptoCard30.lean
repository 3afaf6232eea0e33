/- Contracts for the law ScanDecodesUptoCard, part 30: what the functions that it reaches answer, for all arguments that the theorems name. -/
import Derived.Test.YtgmddhljgfbibaaGreatDoorMScanDecodesUptoCard22
import Derived.Lib.FrozenHead
import Derived.Lib.Builder
import Derived.Lib.UnsafeStr
import Derived.Lib.AppendStr
import Derived.Laws.Externs
import Derived.RegionTactic
import Derived.Test.YtgmddhljgfbibaaGreatDoorMScanDecodesUptoCard3
import Derived.Test.YtgmddhljgfbibaaGreatDoorMScanDecodesUptoCard6
import Derived.Test.YtgmddhljgfbibaaGreatDoorMScanDecodesUptoCard4
/- Plain of the reference. -/
namespace Go.Proofs.YtgmddhljgfbibaaGreatDoor
set_option linter.unusedVariables false
set_option linter.unusedSimpArgs false
open Go.RowKit
theorem plZ_ne {y : Nat} {r : List Nat} (h : y ≠ 255) : plZ (y :: r) = (plZ r).map (y :: ·) := by
  cases r with
  | nil => simp [plZ, h]
  | cons z r => rw [plZ, if_neg h]
theorem plZ_two (z : Nat) (r : List Nat) : plZ (255 :: z :: r) = if z = 0 then (plZ r).map (255 :: ·) else none := by rw [plZ, if_pos rfl]
theorem plZ_last : plZ [255] = none := by rw [plZ, if_pos rfl]
attribute [local irreducible] bytesV plZ
set_option maxRecDepth 20000 in
set_option maxHeartbeats 1000000 in
theorem rplain_any (A : Option Addr) (n c : Nat) (bs : List Nat) (w : World) (hs : SL w 1 (.slice A n c) n (bytesV bs)) (hlt : ∀ b ∈ bs, b < 256) (hn : n ≤ 1000000000) :
    Calls Tryz.prog 32 #[.slice A n c] w (PlIs (plZ bs) w) := by
  have HL := hid_ (sl_len hs).1
  have hc := (sl_len hs).2
  obtain ⟨R, hR⟩ : ∃ R, plZ bs = R := ⟨_, rfl⟩
  have HLT := hid_ hlt
  rw [hR]
  have HR0 : Hid ((plZ (bs.drop 0)).map ([] ++ ·) = R) := hid_ (by rw [List.drop_zero, ← hR]; simp)
  clear hR hlt
  have hcc : c ≤ 9223372036854775807 := by
    obtain ⟨A', c', e, -, h2, -, -⟩ := hs
    injection e with e1 e2 e3
    omega
  go_enter Tryz.func32, Tryz.ntmps32
  go_wp2_with fail
  go_loopw [4, 5] (fun v iv wr => ∃ (k dl : Nat) (D : List Nat), k ≤ n ∧ dl ≤ k ∧ iv = .int .i64 (k : Int) ∧ Hid (D.length = dl) ∧ OwnV wr w.heap.size 5 1 v dl (bytesV D) ∧ Ext w wr ∧ Hid ((plZ (bs.drop k)).map (D ++ ·) = R)) (fun _ i _ => n - (intOf i).toNat)
  case atStart => exact ⟨0, 0, [], by omega, by omega, rfl, hid_ rfl, (by unfold bytesV; exact OwnV.nil _ _ _ _), Ext.refl _, HR0⟩
  case round =>
    clear HR0
    obtain ⟨k, dl, D, hk, hdl, rfl, HD, ⟨B0, d0, rfl, hown⟩, hx, HR⟩ := hrel
    by_cases hlt : k < n
    · obtain ⟨ad, u, rfl, hab, hxk, hcell⟩ := hs.at1 hlt
      obtain ⟨hkl, rfl⟩ := bytes_at hxk
      have hy8 : bs[k] < 256 := HLT.out _ (List.getElem_mem hkl)
      have HCK := hid_ (fun W (h : Ext w W) => (h.cell (p := ad.add k) (by rw [block_of_add]; exact hab)).trans hcell)
      have HR1 : Hid ((plZ (bs[k] :: bs.drop (k + 1))).map (D ++ ·) = R) := hid_ (by rw [← HR.out, ← List.drop_eq_getElem_cons hkl])
      obtain ⟨k1, hk1⟩ : ∃ r, k + 1 = r := ⟨_, rfl⟩
      rw [hk1] at HR1
      have hcell0 := HCK.out _ hx
      clear hxk HR hcell
      generalize bs[k] = y at *
      by_cases hy : y = 255
      · have hyb : ((y : Int) == 255) = true := by simp; omega
        by_cases hl1 : k1 < n
        · have hkl2 : k1 < bs.length := by rw [HL.out]; exact hl1
          obtain ⟨ad2, u2, e2, hab2, hxk2, hcell2⟩ := hs.at1 hl1
          injection e2 with e2
          subst e2
          obtain ⟨_, rfl⟩ := bytes_at hxk2
          have hz8 : bs[k1] < 256 := HLT.out _ (List.getElem_mem hkl2)
          have HCK2 := hid_ (fun W (h : Ext w W) => (h.cell (p := ad.add k1) (by rw [block_of_add]; exact hab2)).trans hcell2)
          obtain ⟨k2, hk2⟩ : ∃ r, k1 + 1 = r := ⟨_, rfl⟩
          have HR2 : Hid ((if bs[k1] = 0 then (plZ (bs.drop k2)).map (255 :: ·) else none).map (D ++ ·) = R) := hid_ (by
            have h := HR1.out
            rw [hy, List.drop_eq_getElem_cons hkl2, plZ_two, hk2] at h
            exact h)
          clear hxk2 hcell2 HR1
          generalize bs[k1] = z at *
          by_cases hz : z = 0
          · have HR3 : Hid ((plZ (bs.drop k2)).map ((D ++ [y]) ++ ·) = R) := hid_ (by rw [← HR2.out, if_pos hz, hy]; simp [Option.map_map, Function.comp_def])
            have hzb : ((z : Int) != 0) = false := by simp; omega
            clear hy hz HR2
            go_wp2_with (first
              | (show wpList _ _ _ (⟨some 17, _, _, _, _, _⟩ :: _) _ _; refine wpList_lit1B rfl _ rfl (some 17) rfl y rfl ?_; intro w3 g3 hb3 hx3 hg3; have ho3 := own_ext0' hown hx3; have hx3' := hx.trans hx3)
              | (show wpList _ _ _ (⟨some 18, _, _, _, _, _⟩ :: _) _ _; at_builtin; refine wpList_append_slf elt_by rfl (.tmp 12) (.tmp 17) rfl w.heap.size (.slice B0 dl d0) dl (bytesV D) rfl ho3 _ 1 (bytesV [y]) rfl (byte_row rfl hb3) (byteOne _) (by omega) (by omega) hx3'.size ?_; intro A4 c4 w4 ho4 hgr4 hor4; have hx4 := hx3'.grown' hgr4 (fun b hb => (ho3.lt b hb).1); have hcell4 := HCK.out _ hx4; have hcell5 := HCK2.out _ hx4))
            go_roundw
            case rel =>
              refine ⟨k2, dl + 1, D ++ [y], by omega, by omega, by go_num, hid_ (by simp [HD.out]), ⟨A4, c4, rfl, ?_⟩, hx4, HR3⟩
              rw [bytesV_app']
              exact ho4
            case measure => simp [intOf]; omega
          · have HRE : Hid (R = none) := hid_ (by rw [← HR2.out, if_neg hz]; rfl)
            have hzb : ((z : Int) != 0) = true := by simp; omega
            clear hy hz HR2
            go_wp2_with (first
              | (show wpList _ _ _ (⟨some 17, _, _, _, _, _⟩ :: _) _ _; refine wpList_lit1B rfl _ rfl (some 17) rfl y rfl ?_; intro w3 g3 hb3 hx3 hg3; have ho3 := own_ext0' hown hx3; have hx3' := hx.trans hx3)
              | (show wpList _ _ _ (⟨some 18, _, _, _, _, _⟩ :: _) _ _; at_builtin; refine wpList_append_slf elt_by rfl (.tmp 12) (.tmp 17) rfl w.heap.size (.slice B0 dl d0) dl (bytesV D) rfl ho3 _ 1 (bytesV [y]) rfl (byte_row rfl hb3) (byteOne _) (by omega) (by omega) hx3'.size ?_; intro A4 c4 w4 ho4 hgr4 hor4; have hx4 := hx3'.grown' hgr4 (fun b hb => (ho3.lt b hb).1); have hcell4 := HCK.out _ hx4; have hcell5 := HCK2.out _ hx4))
            all_goals refine bodyPost_ret (results_tmp2 rfl _ _ _) rfl ?_
            all_goals rw [HRE.out]
            all_goals exact ⟨rfl, hx4⟩
        · have HRE : Hid (R = none) := hid_ (by rw [← HR1.out, List.drop_eq_nil_of_le (by rw [HL.out]; omega), hy, plZ_last]; rfl)
          clear hy HR1
          go_wp2_with (first
            | (show wpList _ _ _ (⟨some 17, _, _, _, _, _⟩ :: _) _ _; refine wpList_lit1B rfl _ rfl (some 17) rfl y rfl ?_; intro w3 g3 hb3 hx3 hg3; have ho3 := own_ext0' hown hx3; have hx3' := hx.trans hx3)
            | (show wpList _ _ _ (⟨some 18, _, _, _, _, _⟩ :: _) _ _; at_builtin; refine wpList_append_slf elt_by rfl (.tmp 12) (.tmp 17) rfl w.heap.size (.slice B0 dl d0) dl (bytesV D) rfl ho3 _ 1 (bytesV [y]) rfl (byte_row rfl hb3) (byteOne _) (by omega) (by omega) hx3'.size ?_; intro A4 c4 w4 ho4 hgr4 hor4; have hx4 := hx3'.grown' hgr4 (fun b hb => (ho3.lt b hb).1); have hcell4 := HCK.out _ hx4))
          refine bodyPost_ret (results_tmp2 rfl _ _ _) rfl ?_
          rw [HRE.out]
          exact ⟨rfl, hx4⟩
      · have hyb : ((y : Int) == 255) = false := by simp; omega
        have hyI : ¬ ((y : Int) = 255) := by omega
        have HR3 : Hid ((plZ (bs.drop k1)).map ((D ++ [y]) ++ ·) = R) := hid_ (by rw [← HR1.out, plZ_ne hy]; simp [Option.map_map, Function.comp_def])
        clear hy HR1
        go_wp2_with (first
          | (show wpList _ _ _ (⟨some 17, _, _, _, _, _⟩ :: _) _ _; refine wpList_lit1B rfl _ rfl (some 17) rfl y rfl ?_; intro w3 g3 hb3 hx3 hg3; have ho3 := own_ext0' hown hx3; have hx3' := hx.trans hx3)
          | (show wpList _ _ _ (⟨some 18, _, _, _, _, _⟩ :: _) _ _; at_builtin; refine wpList_append_slf elt_by rfl (.tmp 12) (.tmp 17) rfl w.heap.size (.slice B0 dl d0) dl (bytesV D) rfl ho3 _ 1 (bytesV [y]) rfl (byte_row rfl hb3) (byteOne _) (by omega) (by omega) hx3'.size ?_; intro A4 c4 w4 ho4 hgr4 hor4; have hx4 := hx3'.grown' hgr4 (fun b hb => (ho3.lt b hb).1); have hcell4 := HCK.out _ hx4))
        go_roundw
        case rel =>
          refine ⟨k1, dl + 1, D ++ [y], by omega, by omega, by go_num, hid_ (by simp [HD.out]), ⟨A4, c4, rfl, ?_⟩, hx4, HR3⟩
          rw [bytesV_app']
          exact ho4
        case measure => simp [intOf]; omega
    · have hkn : bs.drop k = [] := List.drop_eq_nil_of_le (by rw [HL.out]; omega)
      have HRE : Hid (R = some D) := hid_ (by rw [← HR.out, hkn]; unfold plZ; simp)
      clear hkn HR
      go_wp2_with fail
      refine bodyPost_ret (results_tmp2 rfl _ _ _) rfl ?_
      rw [HRE.out]
      obtain ⟨h1, h2⟩ := own_out' hown
      exact ⟨B0, dl, d0, rfl, HD.out, h1, own_none hown, hx⟩
end Go.Proofs.YtgmddhljgfbibaaGreatDoor
/- strings.Builder: WriteString and String of a builder that the call made, in binary digits. -/
namespace Go.Proofs.YtgmddhljgfbibaaGreatDoor
set_option linter.unusedVariables false
set_option linter.unusedSimpArgs false
open Go.RowKit
def bitC (L : List Bool) : List Value := Lib.byteCells (L.map chB)
theorem bitC_len (L : List Bool) : (bitC L).length = L.length := by simp [bitC, Lib.byteCells]
theorem bitC_str (L D : List Bool) : bitC L ++ Lib.strCells (strB D) = bitC (L ++ D) := by
  simp [bitC, Lib.byteCells, Lib.strCells, strB_data]
/-- the builder in block b holds these digits; its buffer is row r -/
def BldS (w : World) (b : Nat) (L : List Bool) (r : Option Nat) : Prop :=
  ∃ p v, (p = .pointer none ∨ p = .pointer (some ⟨b, 0, none⟩)) ∧ w.heap[b]? = some (.cells #[p, v] 119 (0, 0)) ∧ w.ownsRowF (b + 1) 5 1 v L.length (bitC L) ∧ v.ownBlock = r ∧ (L = [] → v = .slice none 0 0)
theorem BldS.new (w : World) (b : Nat) (h : Blk w b 119 #[.pointer none, .slice none 0 0]) : BldS w b [] none :=
  ⟨_, _, .inl rfl, h, ⟨by simp [bitC, Lib.byteCells], .inl ⟨rfl, rfl⟩⟩, rfl, fun _ => rfl⟩
theorem BldS.lt {w : World} {b : Nat} {L : List Bool} {r : Option Nat} (h : BldS w b L r) : b < w.heap.size := by
  obtain ⟨p, v, -, hb, -⟩ := h
  exact Blk.lt (w := w) (t := 119) (cs := #[p, v]) hb
theorem BldS.row {w : World} {b : Nat} {L : List Bool} {r : Option Nat} (h : BldS w b L r) : ∀ k, r = some k → b < k ∧ k < w.heap.size := by
  obtain ⟨p, v, -, hb, hown, hr, -⟩ := h
  intro k hk
  rcases hown.2 with ⟨rfl, -⟩ | ⟨g, cap, cur, fz, rfl, h1, hg, -⟩
  · rw [← hr] at hk; simp [Value.ownBlock] at hk
  · rw [← hr] at hk
    have : g = k := by simpa [Value.ownBlock] using hk
    subst this
    refine ⟨by omega, ?_⟩
    rcases Nat.lt_or_ge g w.heap.size with h' | h'
    · exact h'
    · simp [Array.getElem?_eq_none h'] at hg
theorem ownsRowF_upd {w w' : World} {B n : Nat} {e : TypeId} {v : Value} {xs : List Value} (hown : w.ownsRowF B e 1 v n xs) (h : ∀ k, v.ownBlock = some k → k < w.heap.size → w'.heap[k]? = w.heap[k]?) : w'.ownsRowF B e 1 v n xs := by
  refine ⟨hown.1, ?_⟩
  rcases hown.2 with ⟨rfl, h2⟩ | ⟨g, cap, cur, fz, rfl, h1, hg, h3⟩
  · exact .inl ⟨rfl, h2⟩
  · refine .inr ⟨g, cap, cur, fz, rfl, h1, ?_, h3⟩
    rw [h g (by simp [Value.ownBlock]) ?_]
    · exact hg
    · rcases Nat.lt_or_ge g w.heap.size with h' | h'
      · exact h'
      · simp [Array.getElem?_eq_none h'] at hg
theorem BldS.upd {S : Nat → Prop} {w w' : World} {b : Nat} {L : List Bool} {r : Option Nat} (h : BldS w b L r) (hu : Upd S w w') (h1 : ¬ S b) (h2 : ∀ k, r = some k → ¬ S k) : BldS w' b L r := by
  have hlt := h.lt
  obtain ⟨p, v, hp, hb, hown, hr, h0⟩ := h
  exact ⟨p, v, hp, (hu.block b hlt h1).trans hb, ownsRowF_upd hown (fun k hk hkl => hu.block k hkl (h2 k (by rw [← hr, hk]))), hr, h0⟩
theorem BldS.ext {w w' : World} {b : Nat} {L : List Bool} {r : Option Nat} (h : BldS w b L r) (hx : Ext w w') : BldS w' b L r :=
  h.upd (S := fun _ => False) (Upd.of_ext hx) (by simp) (by simp)
theorem BldS.drew {w : World} {b : Nat} {L : List Bool} {r : Option Nat} (h : BldS w b L r) : BldS w.drew b L r := h
theorem sizeBld : (Tryz.prog.info? 119).map (·.size) = some 2 := by kernel_rfl
theorem liesBld : liesAt Tryz.prog Tryz.prog.depth 119 (2 / Tryz.prog.cellsOf 119) 0 119 1 = true := by kernel_rfl
theorem zeroBld : (Tryz.prog.info? 119).bind (·.zero) = some (.agg #[.pointer none, .slice none 0 0]) := by kernel_rfl
theorem infoU8 : (Tryz.prog.info? 5).map (fun i => (i.zero, i.size, i.bytes)) = some (some (.int .u8 0), 1, 1) := by kernel_rfl
theorem cellsU8 : Tryz.prog.cellsOf 5 = 1 := by kernel_rfl
set_option maxHeartbeats 1000000 in
set_option maxRecDepth 100000 in
theorem copyCheck_used (b : Nat) (w : World) (h0 : w.cell? ⟨b, 0, none⟩ = some (.pointer (some ⟨b, 0, none⟩))) :
    Calls Tryz.prog 75 #[.pointer (some ⟨b, 0, none⟩)] w fun e w' => e = .returned (.tuple #[]) ∧ w = w' := by
  obtain ⟨j, hj, _⟩ := Option.map_eq_some_iff.1 sizeBld
  have hne := fun W => Lib.run_neq_ptr_same (P := Tryz.prog) W ⟨b, 0, none⟩ Tryz.underlying117 hj
  go_enter Tryz.func75, Tryz.ntmps75
  go_wp2_with fail
  go_end0
  exact ⟨rfl, rfl⟩
set_option maxHeartbeats 1000000 in
set_option maxRecDepth 100000 in
theorem copyCheck_fresh (b : Nat) (w : World) (h0 : w.cell? ⟨b, 0, none⟩ = some (.pointer none)) (hsh : w.shape? b = some (119, 2)) (hfz : w.frozen? ⟨b, 0, none⟩ = false) :
    Calls Tryz.prog 75 #[.pointer (some ⟨b, 0, none⟩)] w fun e w' => e = .returned (.tuple #[]) ∧ w' = w.setCell ⟨b, 0, none⟩ (.pointer (some ⟨b, 0, none⟩)) := by
  obtain ⟨j, hj, hjs⟩ := Option.map_eq_some_iff.1 sizeBld
  go_enter Tryz.func75, Tryz.ntmps75
  go_wp2_with fail
  rw [Lib.run_to_unsafe w ⟨b, 0, none⟩ Tryz.underlying117 Tryz.underlying155 hj (by rw [hjs]; decide) hsh (Nat.zero_lt_succ 1)]
  simp only [Result.andThen]
  rw [Oper.upon_value]
  go_wp2_with fail
  rw [run_callFunc_extern Tryz.func90 (by kernel_rfl) (by kernel_rfl) (by kernel_rfl) (e := Extern.AbiNoEscape.same) (by kernel_rfl)]
  rw [Lib.run_noEscape]
  simp only [Result.andThen]
  rw [Oper.upon_value]
  go_wp2_with fail
  rw [Lib.run_from_unsafe w ⟨b, 0, none⟩ Tryz.underlying155 Tryz.underlying117 hj hsh liesBld]
  simp only [Result.andThen]
  rw [Oper.upon_value]
  go_wp2_with fail
  go_end0
  exact ⟨rfl, rfl⟩
theorem copyCheck_any (b : Nat) (L : List Bool) (r : Option Nat) (w : World) (h : BldS w b L r) :
    Calls Tryz.prog 75 #[.pointer (some ⟨b, 0, none⟩)] w fun e w' => e = .returned (.tuple #[]) ∧ (∃ v, w'.heap[b]? = some (.cells #[.pointer (some ⟨b, 0, none⟩), v] 119 (0, 0)) ∧ w'.ownsRowF (b + 1) 5 1 v L.length (bitC L) ∧ v.ownBlock = r ∧ (L = [] → v = .slice none 0 0)) ∧ Upd (fun x => x = b) w w' := by
  obtain ⟨p, v, hp, hb, hown, hr, h0⟩ := h
  have c0 : w.cell? ⟨b, 0, none⟩ = some p := by rw [Lib.cell_of_heap hb]; rfl
  rcases hp with rfl | rfl
  · refine (copyCheck_fresh b w c0 (by simp [World.shape?, hb]) (by simp [World.frozen?, hb])).mono ?_
    rintro e w' ⟨rfl, rfl⟩
    refine ⟨rfl, ⟨v, by simp [World.setCell, Array.getElem?_modify, hb], ownsRowF_upd hown (fun k hk hkl => Below.heap_setCell _ _ _ _ ?_), hr, h0⟩, (Upd.refl (fun x => x = b) w).setCell (p := ⟨b, 0, none⟩) rfl _⟩
    rcases hown.2 with ⟨rfl, -⟩ | ⟨g, cap, cur, fz, rfl, h1, -⟩
    · simp [Value.ownBlock] at hk
    · have : g = k := by simpa [Value.ownBlock] using hk
      show k ≠ b
      omega
  · refine (copyCheck_used b w c0).mono ?_
    rintro e w' ⟨rfl, rfl⟩
    exact ⟨rfl, ⟨v, hb, hown, hr, h0⟩, Upd.refl _ w⟩
set_option maxHeartbeats 2000000 in
set_option maxRecDepth 100000 in
theorem writeString_any (b : Nat) (L D : List Bool) (r : Option Nat) (w : World) (h : BldS w b L r) (hlen : L.length + D.length ≤ 140737488355328) :
    Calls Tryz.prog 58 #[.pointer (some ⟨b, 0, none⟩), .string (strB D)] w fun e w' => e = .returned (.tuple #[.int .i64 (D.length : Int), .nilIface]) ∧
      ∃ r', BldS w' b (L ++ D) r' ∧ Upd (fun x => x = b ∨ r = some x) w w' := by
  obtain ⟨i0, hi, hz0, hz1, hz2⟩ := info_parts infoU8
  have hsz := strB_size D
  have HC := hid_ (copyCheck_any b L r w h)
  have hblt := h.lt
  have hD := hid_ (bitC_str L D)
  generalize hs : strB D = s at *
  go_enter Tryz.func58, Tryz.ntmps58
  go_wp2_with (go_at_call 75; refine HC.out.mono ?_)
  rintro e w1 ⟨rfl, ⟨v, hbk, hown, rfl, h0⟩, hu1⟩
  have c0 : w1.cell? ⟨b, 0, none⟩ = some (.pointer (some ⟨b, 0, none⟩)) := by rw [Lib.cell_of_heap hbk]; rfl
  have c1 : w1.cell? ⟨b, 1, none⟩ = some v := by rw [Lib.cell_of_heap hbk]; rfl
  have hb1 := hu1.size
  have HS := hid_ hsz
  clear hsz
  go_wp2_with (at_builtin; refine Lib.wpList_append_own_stringF _ rfl _ _ 28 9 rfl (b + 1) 5 i0 Tryz.underlying28 Tryz.underlying9 hi hz0 hz1 hz2 _ _ _ rfl hown s rfl ?c3 ?c4 ?c5 ?_)
  case c3 => have := HS.out; unfold maxLen; omega
  case c4 => have := HS.out; omega
  case c5 => omega
  intro v' w2 hown' hgrow hiff
  have hvb : v.ownBlock ≠ some b := by
    rcases hown.2 with ⟨rfl, -⟩ | ⟨g, cap, cur, fz, rfl, h1, -⟩
    · simp [Value.ownBlock]
    · simp only [Value.ownBlock, ne_eq, Option.some.injEq]; omega
  have hb2 : w2.heap[b]? = some (.cells #[.pointer (some ⟨b, 0, none⟩), v] 119 (0, 0)) := by
    rw [hgrow.block b (by omega) (fun e => hvb e.symm)]
    exact hbk
  have d0 : w2.cell? ⟨b, 0, none⟩ = some (.pointer (some ⟨b, 0, none⟩)) := by rw [Lib.cell_of_heap hb2]; rfl
  have d1 : w2.cell? ⟨b, 1, none⟩ = some v := by rw [Lib.cell_of_heap hb2]; rfl
  have f1 : w2.frozen? ⟨b, 1, none⟩ = false := Lib.frozen_of_heap hb2 1
  have hu2 : Upd (fun x => x = b ∨ v.ownBlock = some x) w w2 := by
    have h9 : Upd (fun x => x = b ∨ v.ownBlock = some x) w w1 := ⟨hu1.os, hu1.tape, hu1.output, hu1.size, fun x hx hn => hu1.block x hx (fun e => hn (.inl e))⟩
    exact h9.grown hgrow (fun k hk => .inl (.inr hk))
  have HI := hid_ hiff
  obtain ⟨ao, n', cap, rfl⟩ : ∃ ao n' cap, v' = .slice ao n' cap := by
    rcases hown'.2 with ⟨hv, _⟩ | ⟨g, cap, cur, fz, hv, _⟩
    · exact ⟨_, _, _, hv⟩
    · exact ⟨_, _, _, hv⟩
  have hv'b : (Value.slice ao n' cap).ownBlock ≠ some b := by
    rcases hown'.2 with ⟨hv, -⟩ | ⟨g, cap, cur, fz, hv, h1, -⟩
    · rw [hv]; simp [Value.ownBlock]
    · rw [hv]; simp only [Value.ownBlock, ne_eq, Option.some.injEq]; omega
  clear hiff
  go_wp2_with fail
  go_ret2
  refine ⟨by first | rfl | (rw [HS.out]; rfl), _, ⟨.pointer (some ⟨b, 0, none⟩), .slice ao n' cap, .inr rfl, by simp [World.setCell, Array.getElem?_modify, hb2], ?_, rfl, ?_⟩, hu2.setCell (p := ⟨b, 1, none⟩) (.inl rfl) _⟩
  · rw [← hD.out, List.length_append, ← HS.out]
    exact ownsRowF_upd hown' (fun k hk hkl => Below.heap_setCell _ _ _ _ (fun e => hv'b (by rw [hk, e])))
  · intro hnil
    obtain ⟨hL, hDn⟩ := List.append_eq_nil_iff.1 hnil
    have hs0 : s = ByteArray.empty := by rw [← hs, hDn]; rfl
    exact HI.out.2 ⟨h0 hL, hs0⟩
theorem unsafeString_none (W : World) (q : Option Addr) : (Builtin.unsafeString_ #[146, 3] 9 #[.pointer q, .int .i64 0]).run Tryz.prog W = .ok (.string .empty) W :=
  Lib.run_unsafeString_none W _ _ _ q
set_option maxHeartbeats 2000000 in
set_option maxRecDepth 100000 in
theorem string_nil (b : Nat) (p : Value) (w : World) (hbk : w.heap[b]? = some (.cells #[p, .slice none 0 0] 119 (0, 0))) :
    Calls Tryz.prog 60 #[.pointer (some ⟨b, 0, none⟩)] w fun e w' => e = .returned (.string ⟨#[]⟩) ∧ Ext w w' := by
  have hUS := unsafeString_none
  have c1 : w.drew.cell? ⟨b, 1, none⟩ = some (.slice none 0 0) := by
    have : w.drew.heap[b]? = some (.cells #[p, .slice none 0 0] 119 (0, 0)) := hbk
    rw [Lib.cell_of_heap this]; rfl
  have hSD : (Builtin.unsafeSliceData_ #[28] 146 #[.slice none 0 0]).run Tryz.prog w.drew = .ok (.pointer none) w.drew := rfl
  go_enter Tryz.func60, Tryz.ntmps60
  go_wp2_with fail
  go_region
  all_goals (go_wp2_with fail; go_ret; exact ⟨rfl, (Ext.refl w).drew⟩)
set_option maxHeartbeats 2000000 in
set_option maxRecDepth 100000 in
theorem string_some (b : Nat) (L : List Bool) (r : Option Nat) (w : World) (h : BldS w b L r) (h0 : L ≠ []) :
    Calls Tryz.prog 60 #[.pointer (some ⟨b, 0, none⟩)] w fun e w' => e = .returned (.string (strB L)) ∧ Upd (fun x => r = some x) w w' := by
  obtain ⟨p, v, -, hbk, hown, rfl, -⟩ := h
  have hl0 : L.length ≠ 0 := by simpa using h0
  have hm : L.map chB ≠ [] := by simpa using h0
  obtain ⟨g, cap, cur, fz, rfl, hbg, hg, hfz, hnc, hcm, hcs, htake⟩ : ∃ g cap cur fz, v = .slice (some ⟨g, 0, none⟩) L.length cap ∧ b + 1 ≤ g ∧ w.heap[g]? = some (.cells cur 5 fz) ∧ fz.2 ≤ L.length * 1 ∧ L.length ≤ cap ∧ cap ≤ maxLen ∧ cur.size = cap * 1 ∧ cur.toList.take (L.length * 1) = bitC L := by
    rcases hown.2 with ⟨_, hz⟩ | ⟨g, cap, cur, fz, hv, r⟩
    · exact absurd hz hl0
    · exact ⟨g, cap, cur, fz, hv, r⟩
  have c1 : w.drew.cell? ⟨b, 1, none⟩ = some (.slice (some ⟨g, 0, none⟩) L.length cap) := by
    have : w.drew.heap[b]? = some (.cells #[p, .slice (some ⟨g, 0, none⟩) L.length cap] 119 (0, 0)) := hbk
    rw [Lib.cell_of_heap this]; rfl
  have hSD : (Builtin.unsafeSliceData_ #[28] 146 #[.slice (some ⟨g, 0, none⟩) L.length cap]).run Tryz.prog w.drew = .ok (.pointer (some ⟨g, 0, none⟩)) w.drew :=
    Lib.run_unsafeSliceData_row _ _ _ _ _ _ (by omega)
  have hUS : (Builtin.unsafeString_ #[146, 3] 9 #[.pointer (some ⟨g, 0, none⟩), .int .i64 (L.length : Int)]).run Tryz.prog w.drew = .ok (.string (strB L)) (w.drew.freeze ⟨g, 0, none⟩ L.length) := by
    have := Lib.run_unsafeString_row (P := Tryz.prog) w.drew 146 3 9 5 Tryz.underlying146 cellsU8 g cur.size (by have hg' : w.drew.heap[g]? = some (.cells cur 5 fz) := hg; simp [World.shape?, hg']) (L.map chB) hm (by rw [List.length_map]; omega) (by rw [List.length_map]; unfold maxLen at hcm; omega) (fun j x hx => by
      have := hown.cells (g := g) rfl j (.int .u8 x.toNat) (by simp only [bitC, Lib.byteCells, List.getElem?_map] at hx ⊢; rw [hx]; rfl)
      exact this)
    rw [List.length_map] at this
    exact this
  have hfr : Upd (fun x => (Value.slice (some ⟨g, 0, none⟩) L.length cap).ownBlock = some x) w (w.drew.freeze ⟨g, 0, none⟩ L.length) := by
    unfold World.freeze
    split
    · exact (Upd.refl _ w).drew
    · exact ⟨rfl, rfl, rfl, by simp, fun x hx hn => by
        have hne : g ≠ x := fun e => hn (by rw [← e]; rfl)
        show (w.heap.modify g _)[x]? = _
        rw [Array.getElem?_modify, if_neg hne]⟩
  generalize w.drew.freeze ⟨g, 0, none⟩ L.length = wf at *
  clear hl0 hm h0
  go_enter Tryz.func60, Tryz.ntmps60
  go_wp2_with fail
  go_region
  all_goals (go_wp2_with fail; go_ret; exact ⟨rfl, hfr⟩)
theorem string_any (b : Nat) (L : List Bool) (r : Option Nat) (w : World) (h : BldS w b L r) :
    Calls Tryz.prog 60 #[.pointer (some ⟨b, 0, none⟩)] w fun e w' => e = .returned (.string (strB L)) ∧ Upd (fun x => r = some x) w w' := by
  by_cases h0 : L = []
  · subst h0
    obtain ⟨p, v, -, hbk, -, -, hv⟩ := h
    rw [hv rfl] at hbk
    refine (string_nil b p w hbk).mono ?_
    rintro e w' ⟨rfl, hx⟩
    exact ⟨rfl, Upd.of_ext hx⟩
  · exact string_some b L r w h h0
end Go.Proofs.YtgmddhljgfbibaaGreatDoor
/- digitsOf of the reference. -/
namespace Go.Proofs.YtgmddhljgfbibaaGreatDoor
set_option linter.unusedVariables false
set_option linter.unusedSimpArgs false
open Go.RowKit
theorem digsOf_succ (b : List Nat) (k : Nat) (h : k < b.length) : digsOf (b.take (k + 1)) = digsOf (b.take k) ++ digs b[k] 8 := by
  rw [List.take_succ_eq_append_getElem h, digsOf_append]
  simp [digsOf]
theorem bytes_get {bs : List Nat} {k : Nat} {u : Value} (h : (bytesV bs)[k]? = some u) : ∃ hk : k < bs.length, u = .int .u8 ((bs[k] : Nat) : Int) := by
  unfold bytesV at h
  rw [List.getElem?_map] at h
  obtain ⟨z, hz, rfl⟩ := Option.map_eq_some_iff.1 h
  obtain ⟨hk, rfl⟩ := List.getElem?_eq_some_iff.1 hz
  exact ⟨hk, rfl⟩
set_option maxRecDepth 20000 in
set_option maxHeartbeats 1000000 in
theorem digitsOf_any (bs : List Nat) (v : Value) (w : World) (hv : SL w 1 v bs.length (bytesV bs)) (hlt : ∀ b ∈ bs, b < 256) (hl : bs.length ≤ 1000000000000) :
    Calls Tryz.prog 33 #[v] w fun e w' => e = .returned (.string (strB (digsOf bs))) ∧ Ext w w' := by
  have hv' := hv
  obtain ⟨A, c, rfl, hc1, hc2, -, -⟩ := hv'
  have HB := hid_ hlt
  have HSU := hid_ (digsOf_succ bs)
  obtain ⟨n, hnn⟩ : ∃ n, n = bs.length := ⟨_, rfl⟩
  have HBL : Hid (bs.length = n) := hid_ hnn.symm
  rw [← hnn] at hv hl hc1 ⊢
  clear hnn hlt
  go_enter Tryz.func33, Tryz.ntmps33
  go_wp2_with (refine wpList_alloc_abs' rfl (some 3) rfl 119 rfl _ zeroBld ?_; intro w1 gw hbB hxB hgB)
  have hw0 := BldS.new w1 gw hbB
  clear hbB
  go_loopw [8] (fun i wr => ∃ (k : Nat) (r : Option Nat), k ≤ n ∧ i = .int .i64 (k : Int) ∧ BldS wr gw (digsOf (bs.take k)) r ∧ Ext w wr) (fun i _ => n - (intOf i).toNat)
  case atStart => exact ⟨0, none, by omega, rfl, by simpa [digsOf] using hw0, hxB⟩
  case round =>
    clear hw0
    obtain ⟨k, r, hk, rfl, hwr, hbl⟩ := hrel
    by_cases hlt : k < n
    · obtain ⟨ad, u, rfl, -, hxk, hcell⟩ := (hv.ext hbl).at1 hlt
      obtain ⟨hkl, rfl⟩ := bytes_get hxk
      have hx8 : bs[k] < 256 := HB.out _ (List.getElem_mem hkl)
      have HS := hid_ (HSU.out k hkl)
      clear hxk
      generalize bs[k] = x at *
      have hx64 : IntKind.i64.wrap (x : Int) = (x : Int) := IntWalk.i64_in _ (by omega)
      have HBI : Hid (∀ W, Calls Tryz.prog 59 #[.int .i64 8, .int .i64 (x : Int)] W fun e w' => e = .returned (.string (strB (digs x 8))) ∧ W = w') := hid_ (fun W => by
        have := binary_any 8 x W (by omega) (by omega)
        rw [binS_strB] at this
        exact this)
      have hll : (digsOf (bs.take k)).length ≤ 8 * k := by rw [digsOf_len, List.length_take]; omega
      have HDL := digs_len x 8
      have HP := hid_ (fun W h => writeString_any gw (digsOf (bs.take k)) (digs x 8) r W h (by omega))
      have hrow := hwr.row
      have hgb := hwr.lt
      generalize digs x 8 = D at *
      generalize hsD : strB D = sD at *
      clear hsD
      go_wp2_with (first
        | (go_at_call 59; (with_reducible refine (HBI.out _).mono ?_); rintro e w4 ⟨rfl, rfl⟩)
        | (go_at_call 58; (with_reducible refine (HP.out _ hwr).mono ?_); rintro e w5 ⟨rfl, r', hw5, hu5⟩))
      go_roundw
      case rel =>
        refine ⟨k + 1, r', by omega, by go_num, by rw [HS.out]; exact hw5, hu5.ext hbl (fun x hx => ?_)⟩
        rcases hx with rfl | hx
        · exact hgB
        · have := hrow x hx; omega
      case measure => simp [intOf]; omega
    · have e1 : bs.take k = bs := List.take_of_length_le (by have := HBL.out; omega)
      rw [e1] at hwr
      have HS := hid_ (fun W h => string_any gw (digsOf bs) r W h)
      have hrow := hwr.row
      generalize hsa : strB (digsOf bs) = sa at *
      have HSA := hid_ hsa
      clear hsa
      go_wp2_with (go_at_call 60; (with_reducible refine (HS.out _ hwr).mono ?_); rintro e w5 ⟨rfl, hu5⟩)
      go_ret
      exact ⟨by rw [HSA.out]; rfl, hu5.ext hbl (fun x hx => by have := hrow x hx; omega)⟩
end Go.Proofs.YtgmddhljgfbibaaGreatDoor
