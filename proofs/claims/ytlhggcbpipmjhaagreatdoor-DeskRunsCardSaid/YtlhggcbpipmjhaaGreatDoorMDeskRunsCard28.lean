/- Contracts for the law DeskRunsCard, part 28: what the functions that it reaches answer, for all arguments that the theorems name. -/
import Derived.Test.YtlhggcbpipmjhaaGreatDoorMDeskRunsCard25
import Derived.Test.YtlhggcbpipmjhaaGreatDoorMDeskRunsCard27
import Derived.Test.YtlhggcbpipmjhaaGreatDoorMDeskRunsCard20
import Derived.Laws.MakeOwn
import Derived.Deep.SlicePairs
import Derived.ChangeSlices
import Derived.ProofKit
import Derived.OpenShut
import Derived.Test.YtlhggcbpipmjhaaGreatDoorMDeskRunsCard1
import Derived.Test.YtlhggcbpipmjhaaGreatDoorMDeskRunsCard4
import Derived.SliceStrings
import Derived.Test.YtlhggcbpipmjhaaGreatDoorRows
import Derived.JoinedCond
import Derived.Test.YtlhggcbpipmjhaaGreatDoorCards
import Derived.Test.YtlhggcbpipmjhaaGreatDoorTie
import Derived.WalkKit
import Derived.Deep.DeepHandedRow
import Derived.Lib.LaidTab
import Derived.Lib.SmallJoins
import Derived.LaidSub
import Derived.Stop.LaidErr
import Derived.WalkSmall
import Derived.Shelf.Vars
import Derived.Test.YtlhggcbpipmjhaaGreatDoorMDeskRunsCard19
namespace Go.Proofs.YtlhggcbpipmjhaaGreatDoor
set_option linter.unusedVariables false
set_option linter.unusedSimpArgs false
open Go.RowKit
def piecesB (y : ByteArray) : List ByteArray := Lib.splitB ⟨#[32]⟩ 0 (Lib.countB y ⟨#[32]⟩) y
def full (p : ByteArray) : Bool := decide (p.data.toList ≠ [])
theorem pieces_words (y : ByteArray) : ((piecesB y).filter full).map (·.data.toList) = wGo [] y.data.toList := by
 rw [← split_words]
 have h := Lib.splitB_data ⟨#[32]⟩ 0 (Lib.countB y ⟨#[32]⟩) y
 have e : Lib.split y.data.toList [32] = (piecesB y).map (·.data.toList) := h.symm
 rw [e, List.filter_map]
 rfl
theorem pieces_len (y : ByteArray) : (piecesB y).length = Lib.countB y ⟨#[32]⟩ + 1 := Lib.splitB_all ⟨#[32]⟩ (by decide) 0 _ y rfl
theorem pieces_bd (y : ByteArray) : (piecesB y).length ≤ y.size + 1 := by
 rw [pieces_len]
 have := Lib.countB_le ⟨#[32]⟩ (by decide) _ y (Nat.le_refl _)
 omega
theorem empty_eq (p : ByteArray) : (p.toList == (⟨#[]⟩ : ByteArray).toList) = !full p := by
 rw [Lib.toList_data, Lib.toList_data]
 unfold full
 rw [Bool.eq_iff_iff]
 simp
theorem filter_snoc {l : List ByteArray} (n : Nat) (h : n < l.length) : (l.take (n + 1)).filter full = (l.take n).filter full ++ if full l[n] then [l[n]] else [] := by
 rw [List.take_succ_eq_append_getElem h, List.filter_append]
 congr 1
 cases h2 : full l[n] <;> simp [h2]
theorem strs_one (L : List ByteArray) : ∀ u ∈ L.map Value.string, u.oneCell' = true := by
 intro u hu
 obtain ⟨l, -, rfl⟩ := List.mem_map.1 hu
 rfl
theorem splitS_any (y : ByteArray) (hy : y.size ≤ 300) (m0 : Int) (W : World) (hm : W.cell? ⟨1, 0, none⟩ = some (.int .i64 m0)) : Calls Tryz.prog 9 #[.string y, .string ⟨#[32]⟩] W fun e w' =>
 ∃ P, e = .returned (.slice (some ⟨P, 0, none⟩) (piecesB y).length (piecesB y).length) ∧ SL w' 1 (.slice (some ⟨P, 0, none⟩) (piecesB y).length (piecesB y).length) (piecesB y).length ((piecesB y).map Value.string) ∧ Ext W w' := by
 refine (Tryz.strings_Split y ⟨#[32]⟩ m0 W (by omega) hm (by decide)).mono ?_
 rintro e w' ⟨rfl, rfl⟩
 rw [← pieces_len]
 refine ⟨W.heap.size, rfl, ?_, (Ext.refl W).alloc _⟩
 show SL (W.alloc (.cells ((piecesB y).map Value.string).toArray 9)) _ _ _ _
 have hb : (piecesB y).length ≤ 9223372036854775807 := by
  rw [pieces_len]
  have h1 : Lib.countB y ⟨#[32]⟩ ≤ y.size := Lib.countB_le ⟨#[32]⟩ (by decide) _ y (Nat.le_refl _)
  omega
 have h := (Blk.new W 9 ((piecesB y).map Value.string).toArray).sl (size := 1) (n := (piecesB y).length) (c := (piecesB y).length) (by simp) (Nat.le_refl _) hb
 simpa using h
theorem cell_ext {w W : World} {p : Addr} {v : Value} (h : w.cell? p = some v) (hx : Ext w W) : W.cell? p = some v := by
 have hl : p.block < w.heap.size := by
  unfold World.cell? at h
  cases hq : w.heap[p.block]? with
  | none => rw [hq] at h; cases h
  | some o => exact (Array.getElem?_eq_some_iff.1 hq).1
 exact (hx.cell hl).trans h
def RRunSt (g7 g8 : Nat) (wb w : World) (ls : List (List UInt8)) (k : Nat) (sv iv : Value) (wr : World) : Prop :=
 ∃ (i : Nat) (B : Option Addr) (d : Nat), i ≤ k ∧ iv = .int .i64 (i : Int) ∧ sv = .slice B i d ∧ wr.ownsRow wb.heap.size 9 1 (.slice B i d) i (strsV (runZ (ls.take i)).1) ∧ Blk wr g7 30 (bv (runZ (ls.take i)).2.1) ∧ Blk wr g8 30 (bv (runZ (ls.take i)).2.2) ∧ Ext w wr ∧ wb.heap.size ≤ wr.heap.size
def WordsSt (wq : World) (PS : List ByteArray) (sv iv : Value) (wr : World) : Prop :=
 ∃ (n : Nat) (B : Option Addr) (d : Nat) (m : Nat), n ≤ PS.length ∧ iv = .int .i64 (n : Int) ∧ m = ((PS.take n).filter full).length ∧ sv = .slice B m d ∧ wr.ownsRow wq.heap.size 9 1 (.slice B m d) m (((PS.take n).filter full).map Value.string) ∧ Ext wq wr
set_option maxRecDepth 20000 in
set_option maxHeartbeats 16000000 in
theorem rrun_any (v : Value) (L : List ByteArray) (w : World) (m0 : Int) (hm : w.cell? ⟨1, 0, none⟩ = some (.int .i64 m0)) (hv : SL w 1 v L.length (L.map Value.string)) : Calls Tryz.prog 5 #[v] w (RunIs L w) := by
 obtain ⟨A, c, rfl, hc1, hc2, -, -⟩ := id hv
 obtain ⟨N, hN⟩ : ∃ N, L.length = N := ⟨_, rfl⟩
 have HN := hid_ hN
 have HM := hid_ (fun W (h : Ext w W) => cell_ext hm h)
 rw [hN] at hv hc1 ⊢
 have HV := hid_ hv
 have HZB := zero48
 have hz := hid_ zer64
 obtain ⟨cz, hcz⟩ : ∃ cz, bv zeros64 = cz := ⟨_, rfl⟩
 rw [hcz] at HZB hz
 have HCZ := hid_ hcz
 obtain ⟨ls, hls⟩ : ∃ ls, L.map (·.data.toList) = ls := ⟨_, rfl⟩
 have HLS := hid_ hls
 have hlN : ls.length = N := by rw [← hls, List.length_map]; exact hN
 have HLN := hid_ hlN
 obtain ⟨big, hbig⟩ : ∃ big : Nat → Bool, big = fun k => decide (60 < N) || (L.take k).any (fun s => decide (300 < s.size)) := ⟨_, rfl⟩
 have HBIG := hid_ hbig
 have HB0 : Hid (decide (((60 : Nat) : Int) < (N : Int)) = big 0) := hid_ (by rw [hbig]; simp; omega)
 clear hN hv hcz hls hlN hm hbig
 go_enter Tryz.func5, Tryz.ntmps5
 go_wp2_with ((with_reducible apply gS 22); refine wl_run rfl (.bool (big 0)) (ex_gtr rfl rfl rfl HB0.out) ?_)
 go_loopw [4, 25] (fun bw iv wr => ∃ k : Nat, k ≤ N ∧ iv = .int .i64 (k : Int) ∧ bw = .bool (big k) ∧ w = wr) (fun _ iv _ => N - (intOf iv).toNat)
 case atStart => exact ⟨0, by omega, rfl, rfl, rfl⟩
 case round =>
  obtain ⟨k, hk, rfl, rfl, rfl⟩ := hrel
  by_cases hlt : k < N
  ·obtain ⟨ad, u, rfl, hab, hu, hc⟩ := HV.out.at1 hlt
   have hkL : k < L.length := by rw [HN.out]; exact hlt
   have huy : u = .string L[k] := by
    rw [List.getElem?_map, List.getElem?_eq_getElem hkL] at hu
    injection hu with hu
    exact hu.symm
   have hbs : big (k + 1) = (big k || decide (300 < L[k].size)) := by
    rw [HBIG.out]
    dsimp only
    rw [List.take_succ_eq_append_getElem hkL, List.any_append, Bool.or_assoc]
    simp
   subst huy
   clear hu
   generalize L[k] = y at *
   cases hb : big k with
   | true =>
     rw [hb, Bool.true_or] at hbs
     have HBS := hid_ hbs
     clear hbs
     go_wp2_with ((with_reducible apply gS 28); refine wl_read rfl (.string y) (ex_loadS1 rfl rfl (by simpa using hc)) ?_)
     go_roundw
     case rel => exact ⟨k + 1, by omega, by go_num, by rw [HBS.out], by trivial⟩
     case measure => simp [intOf]; omega
   | false =>
     rw [hb, Bool.false_or] at hbs
     have HBS := hid_ hbs
     have HY : Hid (decide (((300 : Nat) : Int) < (y.size : Int)) = big (k + 1)) := hid_ (by rw [HBS.out]; rw [Bool.eq_iff_iff]; simp; omega)
     clear hbs
     obtain ⟨bk, hbk⟩ : ∃ bk, big (k + 1) = bk := ⟨_, rfl⟩
     have HBK := hid_ hbk
     rw [hbk] at HY
     clear hbk
     go_wp2_with (first
      | ((with_reducible apply gS 28); refine wl_read rfl (.string y) (ex_loadS1 rfl rfl (by simpa using hc)) ?_)
      | ((with_reducible apply gS 33); refine wl_run_g (by rfl) (.bool bk) (ex_gtr rfl rfl rfl HY.out) ?_))
     go_roundw
     case rel => exact ⟨k + 1, by omega, by go_num, by rw [HBK.out], by trivial⟩
     case measure => simp [intOf]; omega
  ·obtain rfl : k = N := by omega
   have hbL : big k = bigL L := by
    rw [HBIG.out]
    unfold bigL
    dsimp only
    rw [← HN.out, List.take_length]
   rw [hbL]
   cases hbb : bigL L with
   | true =>
     have HBB := hid_ hbb
     clear hbL hbb
     go_wp2_with fail
     go_ret2
     exact run_bad_is HBB.out (Ext.refl _)
   | false =>
     have HBB := hid_ hbb
     have HL : Hid (k ≤ 60 ∧ ∀ s ∈ L, s.size ≤ 300) := hid_ (by
      unfold bigL at hbb
      rw [Bool.or_eq_false_iff, List.any_eq_false] at hbb
      obtain ⟨q1, q2⟩ := hbb
      have q1' := of_decide_eq_false q1
      refine ⟨by rw [HN.out] at q1'; omega, fun s hs => ?_⟩
      have := q2 s hs
      simp at this
      omega)
     have hk60 := HL.out.1
     clear hbL hbb
     go_wp2_with (first
      | ((with_reducible apply gS 7); refine wAlo' rfl (some 7) rfl 30 rfl _ HZB ?_; intro w1 g7 hb7 hx1 hg7)
      | ((with_reducible apply gS 8); refine wAlo' rfl (some 8) rfl 30 rfl _ HZB ?_; intro w2 g8 hb8 hx2 hg8))
     have hg78 : g7 < g8 := by have := hb7.lt; omega
     have hx02 := hx1.trans hx2
     have h8z : Blk w2 g8 30 (bv (coK 1 0)) := by rw [coK_zero, HCZ.out]; exact hb8
     have h7z : Blk w2 g7 30 (bv zeros64) := by rw [HCZ.out]; exact hb7.ext hx2
     clear hb7 hb8 hx1 hx2
     go_loopw [37] (fun iv wr => ∃ j : Nat, j ≤ 64 ∧ iv = .int .i64 (j : Int) ∧ Blk wr g8 30 (bv (coK 1 j)) ∧ Blk wr g7 30 (bv zeros64) ∧ Ext w wr) (fun iv _ => 64 - (intOf iv).toNat)
     case atStart => exact ⟨0, by omega, rfl, h8z, h7z, hx02⟩
     case round =>
      clear h8z h7z hx02
      obtain ⟨j, hj, rfl, h8, h7, hx⟩ := hrel
      by_cases hlt : j < 64
      ·go_wp2_with (first
        | ((with_reducible apply gS 41); refine wl_run rfl (.pointer (some ⟨g8, j, none⟩)) (ex_ixArr0 Tryz.underlying30 sizeI rfl (i := j) rfl rfl hlt) ?_)
        | ((with_reducible show wpList _ _ _ (⟨none, .store _ (.tmp 41) _, _, _, _, _⟩ :: _) _ _); refine wl_storeI rfl (.tmp 41) _ rfl g8 j 1 rfl rfl h8 (by rw [bv_size, coK_len _ _ hj]; exact hlt) ?_))
       have h89 := h8.set_ j (.int .i64 1)
       rw [bv_set, coK_set 1 j hlt] at h89
       have h79 := h7.far (p := ⟨g8, j, none⟩) (by show g7 ≠ g8; omega) (.int .i64 1)
       have hx9 := hx.setCell (p := ⟨g8, j, none⟩) (by show w.heap.size ≤ g8; omega) (.int .i64 1)
       generalize wr.setCell ⟨g8, j, none⟩ (.int .i64 1) = W9 at *
       go_wp2_with fail
       go_roundw
       case rel => exact ⟨j + 1, by omega, by go_num, h89, h79, hx9⟩
       case measure => simp [intOf]; omega
      ·obtain rfl : j = 64 := by omega
       rw [coK_all] at h8
       go_wp2_with fail
       obtain ⟨wb, rfl⟩ : ∃ wb : World, wb = wr := ⟨_, rfl⟩
       have hgb := h8.lt
       go_loopw [10, 45] (fun sv iv wr => RRunSt g7 g8 wb w ls k sv iv wr) (fun _ iv _ => k - (intOf iv).toNat)
       case atStart => exact ⟨0, none, 0, by omega, rfl, rfl, own_nil _ _ _ _, h7, h8, hx, Nat.le_refl _⟩
       case round =>
        clear h7 h8 hx
        obtain ⟨i, B, d, hi, rfl, rfl, hown, h7, h8, hx, hsz⟩ := hrel
        by_cases hlt : i < k
        ·obtain ⟨ad, u, rfl, hab, hu, hc⟩ := (HV.out.ext hx).at1 hlt
         have hiL : i < L.length := by rw [HN.out]; exact hlt
         have hil : i < ls.length := by rw [HLN.out]; exact hlt
         have huy : u = .string L[i] := by
          rw [List.getElem?_map, List.getElem?_eq_getElem hiL] at hu
          injection hu with hu
          exact hu.symm
         have hys := HL.out.2 L[i] (List.getElem_mem hiL)
         have hyl : L[i].data.toList = ls[i] := by simp only [← HLS.out, List.getElem_map]
         have hts : ls.take (i + 1) = ls.take i ++ [ls[i]] := List.take_succ_eq_append_getElem hil
         have hrs := runZ_snoc (ls.take i) ls[i]
         rw [← hts, ← hyl] at hrs
         have hst := runZ_ok (ls.take i)
         subst huy
         clear hu hyl hts
         generalize L[i] = y at *
         generalize runZ (ls.take i) = R at *
         obtain ⟨o, b, q⟩ := R
         dsimp only at hown h7 h8 hst
         unfold stepZ at hrs
         dsimp only at hrs
         have HSP := hid_ (fun W (h : Ext w W) => splitS_any y hys m0 W (HM.out W h))
         have HRL : Hid (∀ B' d' mm W, mm = ((piecesB y).filter full).length → SL W 1 (.slice B' mm d') mm (((piecesB y).filter full).map Value.string) → Calls Tryz.prog 10 #[.agg (bv b), .agg (bv q), .slice B' mm d'] W (RLineIs (lineZ b q (wGo [] y.data.toList)) W)) := hid_ (fun B' d' mm W hm' hv' => by
          have h1 := pieces_words y
          have h2 := wGo_many y.data.toList []
          have h3 := wGo_mem y.data.toList []
          have h4 := Lib.size_eq y
          rw [← h1] at h2 h3
          rw [List.length_map] at h2
          subst hm'
          have h5 := rline_any b q (.slice B' ((piecesB y).filter full).length d') ((piecesB y).filter full) W hst (fun s hs => by
           have h6 := h3 s.data.toList (List.mem_map.2 ⟨s, hs, rfl⟩)
           have h7 := Lib.size_eq s
           simp only [List.length_nil] at h6
           omega) (by omega) hv'
          rw [h1] at h5
          exact h5)
         have hMb0 : (piecesB y).length ≤ 400 := by have := pieces_bd y; omega
         have hze := line_e b q (wGo [] y.data.toList)
         have her := line_err b q (wGo [] y.data.toList)
         have hok2 := line_ok hst (wGo [] y.data.toList)
         have hsb := hid_ ((bv_size b).trans hst.1)
         have hsq := hid_ ((bv_size q).trans hst.2.1)
         generalize lineZ b q (wGo [] y.data.toList) = Z at *
         obtain ⟨E, S, b2, q2⟩ := Z
         obtain ⟨e, rfl, he9⟩ : ∃ e : Nat, E = (e : Int) ∧ e ≤ 9 := ⟨E.toNat, by dsimp only at hze; omega, by dsimp only at hze; omega⟩
         dsimp only at hrs her hok2
         have hsb2 := hid_ ((bv_size b2).trans hok2.1)
         have hsq2 := hid_ ((bv_size q2).trans hok2.2.1)
         have HER := hid_ her
         have hrs' : runZ (ls.take (i + 1)) = (o ++ [if e = 0 then S else errS ++ Lib.itoa (e : Int)], b2, q2) := by
          rw [hrs]
          unfold saysZ
          by_cases he : e = 0
          ·subst he; rfl
          ·rw [if_neg (by dsimp only; omega), if_neg he]
         have HRS := hid_ hrs'
         clear hze hys hrs hrs' hst her hok2
         obtain ⟨PS, hPS⟩ : ∃ PS, piecesB y = PS := ⟨_, rfl⟩
         rw [hPS] at HSP HRL hMb0
         obtain ⟨M, hM⟩ : ∃ M, PS.length = M := ⟨_, rfl⟩
         have HMP := hid_ hM
         rw [hM] at HSP hMb0
         clear hPS hM
         go_wp2_with (first
          | ((with_reducible apply gS 48); refine wl_read rfl (.string y) (ex_loadS1 rfl rfl (by simpa using hc)) ?_)
          | (go_at_call 9; (with_reducible refine (HSP.out _ hx).mono ?_); rintro e' wq ⟨P, rfl, hsP, hxq⟩))
         have HSPP := hid_ hsP
         clear hsP
         obtain ⟨wo, rfl⟩ : ∃ wo : World, wo = wr := ⟨_, rfl⟩
         go_loopw [13, 52] (fun sv iv wr => WordsSt wq PS sv iv wr) (fun _ iv _ => M - (intOf iv).toNat)
         case atStart => exact ⟨0, none, 0, 0, by omega, rfl, by simp, rfl, by simpa using own_nil _ _ _ _, Ext.refl _⟩
         case round =>
          obtain ⟨n, Bw, dw, mm, hn, rfl, hmm, rfl, hownw, hxw⟩ := hrel
          rw [HMP.out] at hn
          by_cases hlt2 : n < M
          ·have hnP : n < PS.length := by rw [HMP.out]; exact hlt2
           obtain ⟨ad3, u3, hA3, hab3, hu3, hc3⟩ := (HSPP.out.ext hxw).at1 hlt2
           have huy3 : u3 = .string PS[n] := by
            rw [List.getElem?_map, List.getElem?_eq_getElem hnP] at hu3
            injection hu3 with hu3
            exact hu3.symm
           subst huy3
           have hfs := filter_snoc n hnP
           have hee := empty_eq PS[n]
           have HMM := hid_ hmm
           injection hA3 with hA3
           subst hA3
           rw [addr_add, Nat.zero_add] at hc3
           have HC3 := hid_ hc3
           clear hc3
           clear hu3 hmm
           generalize PS[n] = pc at *
           cases hf : full pc with
           | false =>
             rw [hf] at hfs hee
             simp only [Bool.false_eq_true, if_false, List.append_nil] at hfs
             have HFS := hid_ hfs
             have HEE := hid_ hee
             clear hfs hee hf
             go_wp2_with (first
              | ((with_reducible apply gS 54); refine wl_run rfl (.pointer (some ⟨P, n, none⟩)) (ex_ixSl0 Tryz.underlying22 sizeStr rfl (i := n) rfl rfl hlt2) ?_)
              | ((with_reducible apply gS 55); refine wl_read rfl (.string pc) (ex_loadS1 rfl rfl HC3.out) ?_)
              | ((with_reducible apply gS 57); refine wl_run rfl (.bool (!true)) (ex_neqS rfl rfl rfl HEE.out) ?_))
             go_roundw
             case rel => exact ⟨n + 1, Bw, dw, mm, by rw [HMP.out]; omega, by go_num, by rw [HFS.out]; exact HMM.out, rfl, by rw [HFS.out]; exact hownw, hxw⟩
             case measure => simp [intOf]; omega
           | true =>
             rw [hf] at hfs hee
             simp only [if_true] at hfs
             have HFS := hid_ hfs
             have HEE := hid_ hee
             have hmb : mm ≤ M := by rw [HMM.out, ← HMP.out]; exact Nat.le_trans (List.length_filter_le _ _) (by rw [List.length_take]; omega)
             have HMB := hid_ hmb
             clear hfs hee hf
             go_wp2_with (first
              | ((with_reducible apply gS 54); refine wl_run rfl (.pointer (some ⟨P, n, none⟩)) (ex_ixSl0 Tryz.underlying22 sizeStr rfl (i := n) rfl rfl hlt2) ?_)
              | ((with_reducible apply gS 55); refine wl_read rfl (.string pc) (ex_loadS1 rfl rfl HC3.out) ?_)
              | ((with_reducible apply gS 57); refine wl_run rfl (.bool (!false)) (ex_neqS rfl rfl rfl HEE.out) ?_)
              | ((with_reducible apply gS 60); refine wLit1 rfl 22 9 (.tmp 59) rfl (some 60) rfl Tryz.underlying22 1 sizeStr zeroStr _ rfl rfl (by omega) (by omega) ?_; intro v5 gb hbb hx5 hgb5; have hown5 := own_keep hownw hx5; have hx15 := hxw.trans hx5; have hsz5 : wq.heap.size ≤ v5.heap.size := hx15.size)
              | ((with_reducible apply gS 61); refine wApf elt_strD rfl _ _ rfl wq.heap.size _ _ _ rfl hown5 _ 1 [.string pc] rfl (hbb.sl (size := 1) (n := 1) (c := 1) rfl (by omega) (by omega)) (strs_one [pc]) (by omega) (by omega) hsz5 ?_; intro B7 d7 v7 hown7 hg7' hrow7))
             have hy7 : Ext wq v7 := (upd_grown hg7').ext hx15 (fun b hb => (hown5.lt b hb).1)
             go_roundw
             case rel => exact ⟨n + 1, B7, d7, mm + 1, by rw [HMP.out]; omega, by go_num, by rw [HFS.out, List.length_append, ← HMM.out]; rfl, rfl, by rw [HFS.out, List.map_append]; exact hown7, hy7⟩
             case measure => simp [intOf]; omega
          ·obtain rfl : n = M := by omega
           have hall2 : PS.take n = PS := by rw [← HMP.out, List.take_length]
           rw [hall2] at hmm hownw
           have HRLW := hid_ (HRL.out Bw dw mm wr hmm (own_out hownw).1)
           have hxo := hxq.trans hxw
           have h7r := h7.ext hxo
           have h8r := h8.ext hxo
           have hownr := own_keep hown hxo
           have hszr : wb.heap.size ≤ wr.heap.size := Nat.le_trans hsz hxo.size
           have hxr := hx.trans hxo
           clear hall2 HRL HSP hmm hownw hown h7 h8 hc
           by_cases he : e = 0
           ·subst he
            rw [if_pos rfl] at HRS
            have HSN := hid_ (strsV_snoc o S)
            generalize strsV o = XS at *
            go_upto_region 28 with (first
             | ((with_reducible apply gS 64); refine wLdB rfl 30 (.tmp 7) rfl g7 rfl h7r _ Tryz.underlying30 rfl 64 size48 hsb.out ?_)
             | ((with_reducible apply gS 65); refine wLdB rfl 30 (.tmp 8) rfl g8 rfl h8r _ Tryz.underlying30 rfl 64 size48 hsq.out ?_)
             | (go_at_call 10; refine HRLW.out.mono ?_; rintro e' wl ⟨s9, rfl, hs9, hxl⟩; obtain rfl := (hs9 rfl).symm; have h7l := h7r.ext hxl; have h8l := h8r.ext hxl; have hownl := own_keep hownr hxl; have hszl : wb.heap.size ≤ wl.heap.size := Nat.le_trans hszr hxl.size; have hxwl := hxr.trans hxl)
             | ((with_reducible apply gS 17); refine wAlo' rfl (some 17) rfl 30 rfl _ HZB ?_; intro x1 g17 hb17 hxa hg17)
             | ((with_reducible apply gS 18); refine wAlo' rfl (some 18) rfl 30 rfl _ HZB ?_; intro x2 g18 hb18 hxb hg18; have hb17b := hb17.ext hxb; have hl17 := hb17.lt)
             | ((with_reducible apply gT 17 69); refine wStB rfl 30 (.tmp 17) (.tmp 69) rfl g17 (bv b2) rfl rfl hb17b 64 size48 hsb2.out hz.out (bv_one b2) ?_; intro x3 hc17 hgc; have hb183 := (upd_of_grown hgc).blk hb18 (by omega); have hx13 := (hxa.trans hxb).grown hgc hg17)
             | ((with_reducible apply gT 18 70); refine wStB rfl 30 (.tmp 18) (.tmp 70) rfl g18 (bv q2) rfl rfl hb183 64 size48 hsq2.out hz.out (bv_one q2) ?_; intro x4 hc18 hgd; have hc174 := (upd_of_grown hgd).blk hc17 (by omega); have hx14 := hx13.grown hgd (by have := hxa.size; omega); have h7x := h7l.ext hx14; have h8x := h8l.ext hx14; have hownx := own_keep hownl hx14; have hszx : wb.heap.size ≤ x4.heap.size := Nat.le_trans hszl hx14.size; have hxwx := hxwl.trans hx14)
             | ((with_reducible apply gS 73); refine wl_run rfl (.bool true) (ex_eql rfl rfl rfl (by simp)) ?_))
            try simp only [Act.put, sA, sB, sC]
            have hI0 : Blk x4.drew g17 30 (bv b2) ∧ Blk x4.drew g18 30 (bv q2) := ⟨hc174, hc18⟩
            have h7d : Blk x4.drew g7 30 (bv b) := h7x
            have h8d : Blk x4.drew g8 30 (bv q) := h8x
            have hlq := hxa.size
            have hownd : x4.drew.ownsRow wb.heap.size 9 1 (.slice B i d) i XS := own_keep hownx ((Ext.refl x4).drew)
            have hxd := hxwx.drew
            refine wp_region_oi (fun V => Blk V g17 30 (bv b2) ∧ Blk V g18 30 (bv q2)) (by kernel_rfl) ?_
            refine oi_fix (k := 0) (by kernel_rfl) rfl (by rfl) (.agg (bv b2)) (fun V hV => ex_loadBk rfl rfl hV.1 _ Tryz.underlying30 rfl 64 size48 hsb2.out) hI0 ?_
            simp only [Act.put, sA, sB, sC]
            refine oi_fix (k := 1) (by kernel_rfl) rfl (by rfl) (.agg (bv q2)) (fun V hV => ex_loadBk rfl rfl hV.2 _ Tryz.underlying30 rfl 64 size48 hsq2.out) hI0 ?_
            simp only [Act.put, sA, sB, sC]
            refine oi_loud (k := 2) (by kernel_rfl) rfl ?_
            refine wStB rfl 30 (.tmp 7) (.tmp 74) rfl g7 (bv b2) rfl rfl h7d 64 size48 hsb2.out hsb.out (bv_one b2) ?_
            intro y1 h7y hgy
            have huy := upd_of_grown hgy
            have hI1 := And.intro (huy.blk hI0.1 (by omega)) (huy.blk hI0.2 (by omega))
            have h8y := huy.blk h8d (by omega)
            have howny := own_updG hownd huy (by omega)
            have hxy := hxd.updG huy hg7
            refine oi_end ⟨hI1, ?_⟩
            simp only [Act.put, sA, sB, sC]
            refine oi_loud (k := 3) (by kernel_rfl) rfl ?_
            refine wStB rfl 30 (.tmp 8) (.tmp 75) rfl g8 (bv q2) rfl rfl h8y 64 size48 hsq2.out hsq.out (bv_one q2) ?_
            intro y2 h8z hgz
            have huz := upd_of_grown hgz
            have hI2 := And.intro (huz.blk hI1.1 (by omega)) (huz.blk hI1.2 (by omega))
            have h7z := huz.blk h7y (by omega)
            have hownz := own_updG howny huz hgb
            have hxz := hxy.updG huz (by omega)
            have hszz : wb.heap.size ≤ y2.heap.size := Nat.le_trans hszx (Nat.le_trans (show x4.heap.size ≤ y1.heap.size from huy.size) huz.size)
            refine oi_end ⟨hI2, ?_⟩
            simp only [Act.put, sA, sB, sC]
            refine oi_done (by kernel_rfl) ?_
            go_wp2_with (first
             | ((with_reducible apply gS 81); refine wLit1 rfl 22 9 (.tmp 80) rfl (some 81) rfl Tryz.underlying22 1 sizeStr zeroStr _ rfl rfl (by omega) (by omega) ?_; intro v5 gb hbb hx5 hgb5; have hown5 := own_keep hownz hx5; have hxw5 := hxz.trans hx5; have h75 := h7z.ext hx5; have h85 := h8z.ext hx5; have hsz5 : wb.heap.size ≤ v5.heap.size := Nat.le_trans hszz hx5.size)
             | ((with_reducible apply gS 82); refine wApf elt_strD rfl _ _ rfl wb.heap.size _ _ _ rfl hown5 _ 1 [strV S] rfl (hbb.sl (size := 1) (n := 1) (c := 1) rfl (by omega) (by omega)) (strsV_one [S]) (by omega) (by omega) hsz5 ?_; intro B7 d7 v7 hown7 hg7' hrow7))
            have hy7 : Ext w v7 := (upd_grown hg7').ext hxw5 (fun b hb => by have := (hown5.lt b hb).1; omega)
            have hu7 := upd_grown hg7'
            have h7f := hu7.blk h75 (fun hb => by have := (hown5.lt g7 hb).1; omega)
            have h8f := hu7.blk h85 (fun hb => by have := (hown5.lt g8 hb).1; omega)
            have hszf : wb.heap.size ≤ v7.heap.size := Nat.le_trans hsz5 hg7'.size
            go_roundw
            case rel =>
             have hst9 : RRunSt g7 g8 wb w ls k (.slice B7 (i + 1) d7) (.int .i64 ((i + 1 : Nat) : Int)) v7 := ⟨i + 1, B7, d7, by omega, rfl, rfl, by rw [HRS.out, HSN.out]; exact hown7, by rw [HRS.out]; exact h7f, by rw [HRS.out]; exact h8f, hy7, hszf⟩
             first
              | exact hst9
              | exact ⟨_, _, _, _, _, _, _, _, _, hst9, rfl, rfl, rfl, rfl, rfl, rfl, rfl, rfl, rfl⟩
            case measure => simp [intOf]; omega
           ·obtain ⟨rfl, rfl⟩ := HER.out (by omega)
            rw [if_neg he] at HRS
            have HSN := hid_ (strsV_snoc o (errS ++ Lib.itoa (e : Int)))
            have HDI := hid_ (fun W => digits_any (e : Int) (by omega) W)
            have HIL := hid_ (itoa_small e he9)
            have HE0 : Hid (decide ((e : Int) = 0) = false) := hid_ (by simpa using he)
            clear he HER
            generalize strsV o = XS at *
            generalize Lib.itoa (e : Int) = DI at *
            go_wp2_with (first
             | ((with_reducible apply gS 64); refine wLdB rfl 30 (.tmp 7) rfl g7 rfl h7r _ Tryz.underlying30 rfl 64 size48 hsb.out ?_)
             | ((with_reducible apply gS 65); refine wLdB rfl 30 (.tmp 8) rfl g8 rfl h8r _ Tryz.underlying30 rfl 64 size48 hsq.out ?_)
             | (go_at_call 10; refine HRLW.out.mono ?_; rintro e' wl ⟨s9, rfl, hs9, hxl⟩; have h7l := h7r.ext hxl; have h8l := h8r.ext hxl; have hownl := own_keep hownr hxl; have hszl : wb.heap.size ≤ wl.heap.size := Nat.le_trans hszr hxl.size; have hxwl := hxr.trans hxl)
             | ((with_reducible apply gS 17); refine wAlo' rfl (some 17) rfl 30 rfl _ HZB ?_; intro x1 g17 hb17 hxa hg17)
             | ((with_reducible apply gS 18); refine wAlo' rfl (some 18) rfl 30 rfl _ HZB ?_; intro x2 g18 hb18 hxb hg18; have hb17b := hb17.ext hxb; have hl17 := hb17.lt)
             | ((with_reducible apply gT 17 69); refine wStB rfl 30 (.tmp 17) (.tmp 69) rfl g17 (bv b2) rfl rfl hb17b 64 size48 hsb2.out hz.out (bv_one b2) ?_; intro x3 hc17 hgc; have hb183 := (upd_of_grown hgc).blk hb18 (by omega); have hx13 := (hxa.trans hxb).grown hgc hg17)
             | ((with_reducible apply gT 18 70); refine wStB rfl 30 (.tmp 18) (.tmp 70) rfl g18 (bv q2) rfl rfl hb183 64 size48 hsq2.out hz.out (bv_one q2) ?_; intro x4 hc18 hgd; have hc174 := (upd_of_grown hgd).blk hc17 (by omega); have hx14 := hx13.grown hgd (by have := hxa.size; omega); have h7x := h7l.ext hx14; have h8x := h8l.ext hx14; have hownx := own_keep hownl hx14; have hszx : wb.heap.size ≤ x4.heap.size := Nat.le_trans hszl hx14.size; have hxwx := hxwl.trans hx14)
             | ((with_reducible apply gS 73); refine wl_run rfl (.bool false) (ex_eql rfl rfl rfl HE0.out) ?_)
             | (go_at_call 11; (with_reducible refine (HDI.out _).mono ?_); rintro e' x5 ⟨rfl, rfl⟩)
             | ((with_reducible apply gS 78); refine wl_run rfl (.string ⟨(errS ++ DI).toArray⟩) (ex_addS (l := [101, 114, 114, 111, 114, 32]) (m := DI) rfl rfl rfl (by have := HIL.out; simp only [List.length_cons, List.length_nil]; omega)) ?_)
             | ((with_reducible apply gS 81); refine wLit1 rfl 22 9 (.tmp 80) rfl (some 81) rfl Tryz.underlying22 1 sizeStr zeroStr _ rfl rfl (by omega) (by omega) ?_; intro v5 gb hbb hx5 hgb5; have hown5 := own_keep hownx hx5; have hxw5 := hxwx.trans hx5; have h75 := h7x.ext hx5; have h85 := h8x.ext hx5; have hsz5 : wb.heap.size ≤ v5.heap.size := Nat.le_trans hszx hx5.size)
             | ((with_reducible apply gS 82); refine wApf elt_strD rfl _ _ rfl wb.heap.size _ _ _ rfl hown5 _ 1 [strV (errS ++ DI)] rfl (hbb.sl (size := 1) (n := 1) (c := 1) rfl (by omega) (by omega)) (strsV_one [errS ++ DI]) (by omega) (by omega) hsz5 ?_; intro B7 d7 v7 hown7 hg7' hrow7))
            have hy7 : Ext w v7 := (upd_grown hg7').ext hxw5 (fun b hb => by have := (hown5.lt b hb).1; omega)
            have hu7 := upd_grown hg7'
            have h7f := hu7.blk h75 (fun hb => by have := (hown5.lt g7 hb).1; omega)
            have h8f := hu7.blk h85 (fun hb => by have := (hown5.lt g8 hb).1; omega)
            have hszf : wb.heap.size ≤ v7.heap.size := Nat.le_trans hsz5 hg7'.size
            go_roundw
            case rel =>
             have hst9 : RRunSt g7 g8 wb w ls k (.slice B7 (i + 1) d7) (.int .i64 ((i + 1 : Nat) : Int)) v7 := ⟨i + 1, B7, d7, by omega, rfl, rfl, by rw [HRS.out, HSN.out]; exact hown7, by rw [HRS.out]; exact h7f, by rw [HRS.out]; exact h8f, hy7, hszf⟩
             first
              | exact hst9
              | exact ⟨_, _, _, _, _, _, _, _, _, hst9, rfl, rfl, rfl, rfl, rfl, rfl, rfl, rfl, rfl⟩
            case measure => simp [intOf]; omega
        ·obtain rfl : i = k := by omega
         have hall : ls.take i = ls := by rw [← HLN.out, List.take_length]
         rw [hall] at hown
         have hs := (own_out hown).1
         go_wp2_with fail
         go_ret2
         have hs' : SL wr 1 (.slice B L.length d) L.length (strsV (runZ (L.map (·.data.toList))).1) := by rw [HLS.out, HN.out]; exact hs
         have := run_good_is HBB.out hx hs'
         rw [HN.out] at this
         exact this
theorem strsV_at (l : List (List UInt8)) (k : Nat) (u : Value) (h : (strsV l)[k]? = some u) : ∃ hk : k < l.length, u = strV l[k] := by
 unfold strsV at h
 rw [List.getElem?_map] at h
 obtain ⟨z, hz, rfl⟩ := Option.map_eq_some_iff.1 h
 obtain ⟨hk, e⟩ := List.getElem?_eq_some_iff.1 hz
 exact ⟨hk, by rw [e]⟩
set_option maxHeartbeats 1000000 in
theorem eqStr_same (u v : Value) (xs : List (List UInt8)) (n : Nat) (w : World) (hu : SL w 1 u n (strsV xs)) (hv : SL w 1 v n (strsV xs)) (hn : n = xs.length) :
 Calls Tryz.prog 6 #[u, v] w fun e w' => e = .returned (.bool true) ∧ w = w' := by
 obtain ⟨A, c, rfl, hc1, hc2, -, -⟩ := id hu
 obtain ⟨B, d, rfl, hd1, hd2, -, -⟩ := id hv
 have HN := hid_ hn
 clear hn
 go_enter Tryz.func6, Tryz.ntmps6
 go_wp2_with fail
 go_loop [14] (fun i => ∃ k : Nat, k ≤ n ∧ i = .int .i64 k) (fun i => n - (intOf i).toNat)
 case atStart => exact ⟨0, by omega, rfl⟩
 case round =>
  obtain ⟨k, hk, rfl⟩ := hrel
  by_cases hlt : k < n
  ·obtain ⟨ad, u, rfl, -, hx, hcell⟩ := hu.at1 hlt
   obtain ⟨_, rfl⟩ := strsV_at _ _ _ hx
   obtain ⟨bd, u, rfl, -, hy, hcell2⟩ := hv.at1 hlt
   obtain ⟨_, rfl⟩ := strsV_at _ _ _ hy
   clear hx hy
   unfold strV at hcell hcell2
   generalize (⟨xs[k].toArray⟩ : ByteArray) = x at *
   go_wp2_with (first
    | ((with_reducible apply gS 18); refine wl_read rfl (.string x) (ex_loadS1 rfl rfl (by simpa using hcell)) ?_)
    | ((with_reducible apply gS 23); refine wl_read rfl (.string x) (ex_loadS1 rfl rfl (by simpa using hcell2)) ?_)
    | ((with_reducible apply gS 24); refine wl_run rfl (.bool (!true)) (ex_neqS rfl rfl rfl (by simp)) ?_))
   go_round
   case rel => exact ⟨k + 1, by omega, by go_num⟩
   case measure => simp [intOf]; omega
  ·go_wp2_with fail
   go_ret
   exact ⟨rfl, rfl⟩
end Go.Proofs.YtlhggcbpipmjhaaGreatDoor
namespace Go.Proofs.YtlhggcbpipmjhaaGreatDoor.deskRuns
set_option linter.unusedVariables false
set_option linter.unusedSimpArgs false
open Go.RowKit
theorem err_large : errZ (List.replicate 61 (⟨#[]⟩ : ByteArray)) = 2 := by simp [errZ, bigL]
theorem infoStr : ∃ i z, Tryz.prog.info? 9 = some i ∧ i.zero = some z ∧ i.size = 1 ∧ i.bytes = 16 := by
 have h1 : (Tryz.prog.info? 9).map (fun i => (i.zero.isSome, i.size, i.bytes)) = some (true, 1, 16) := by kernel_rfl
 cases hq : Tryz.prog.info? 9 with
 | none => rw [hq] at h1; cases h1
 | some i =>
   rw [hq] at h1
   simp at h1
   obtain ⟨z, hz⟩ := Option.isSome_iff_exists.1 h1.1
   exact ⟨i, z, rfl, hz, h1.2.1, h1.2.2⟩
theorem wl_make61 {ops : Array Oper} {rest : List Oper} {o : Oper} {a : Act} {w : World} {Q : Exit → Act → World → Prop} (hg : o.guard = none) (dst : Option Tmp) (hdst : o.dst = dst) (x y : Operand) (ho : o.op = .makeSlice 22 x y)
 (hx : a.eval x = .int .i64 61) (hy : a.eval y = .int .i64 61)
 (h : ∀ w1 g, Ext w w1 → wpList Tryz.prog ops Q rest (a.put dst (.slice (some ⟨g, 0, none⟩) 61 61)) w1) : wpList Tryz.prog ops Q (o :: rest) a w := by
 subst hdst
 obtain ⟨i, z, hi, hz, hs, hb⟩ := infoStr
 have hr := run_makeSlice (P := Tryz.prog) w 22 9 i z Tryz.underlying22 hi hz .i64 .i64 61 61 (by omega) (Int.le_refl _) (by rw [hs]; decide) (by rw [hb]; omega) (by omega)
 refine wpList_plain hg fun _ hK => ?_
 unfold Oper.wp execOp
 simp only [ho, hx, hy, Sem.run_bind, hr, Result.andThen_ok, Sem.run_pure]
 exact hK _ _ (h _ _ ((Ext.refl w).alloc _))
set_option maxRecDepth 20000 in
set_option maxHeartbeats 4000000 in
theorem walk (v : Value) (L : List ByteArray) (m0 : Int) (W : World) (hm : W.cell? ⟨1, 0, none⟩ = some (.int .i64 m0)) (hE : EnvW W) (hsl : SL W 1 v L.length (L.map Value.string)) :
 Calls Tryz.prog 3 #[v] W fun e W' => e = .returned (.bool true) ∧ Ext W W' := by
 have HR1 := hid_ (run_any v L W hE hsl)
 have HR2 := hid_ (fun W' (h : Ext W W') => rrun_any v L W' m0 (cell_ext hm h) (hsl.ext h))
 have HR3 := hid_ (fun W' A c => run_large (.slice A 61 c) (List.replicate 61 (⟨#[]⟩ : ByteArray)) W' (by simp) 61 c A rfl (by simp))
 unfold RunIs at HR3
 rw [err_large] at HR3
 have HQ := hid_ (fun W' u v' n (h1 : SL W' 1 u n (strsV (outZ L))) (h2 : SL W' 1 v' n (strsV (outZ L))) hn => eqStr_same u v' (outZ L) n W' h1 h2 hn)
 obtain ⟨A, c, rfl, -⟩ := id hsl
 obtain ⟨N, hN⟩ : ∃ N, L.length = N := ⟨_, rfl⟩
 rw [hN] at HR1 HR2 ⊢
 clear hm hE hsl hN
 unfold RunIs at HR1 HR2
 obtain ⟨E, hEq⟩ : ∃ E, errZ L = E := ⟨_, rfl⟩
 rw [hEq] at HR1 HR2
 obtain ⟨O, hO⟩ : ∃ O, outZ L = O := ⟨_, rfl⟩
 rw [hO] at HR1 HR2 HQ
 obtain ⟨M, hM⟩ : ∃ M, O.length = M := ⟨_, rfl⟩
 have HM := hid_ hM
 rw [hM] at HR1 HR2
 clear hEq hO hM
 go_enter Tryz.func3, Tryz.ntmps3
 go_wp2_with (first
  | (go_at_call 4; first
    | ((with_reducible refine HR1.out.mono ?_); rintro e w1 ⟨A1, c1, n1, rfl, rfl, hs1, hx1⟩)
    | ((with_reducible refine (HR3.out _ _ _).mono ?_); rintro e w3 ⟨A3, c3, n3, hn3, rfl, -, hx3⟩))
  | (go_at_call 5; (with_reducible refine (HR2.out _ hx1).mono ?_); rintro e w2 ⟨A2, c2, n2, rfl, rfl, hs2, hx2⟩)
  | ((with_reducible apply gS 20); refine wl_make61 rfl (some 20) rfl _ _ rfl rfl rfl ?_; intro wm gm hxm)
  | (go_at_call 6; (with_reducible refine (HQ.out _ _ _ _ (hs1.ext ((hx2.trans hxm).trans hx3)) (hs2.ext (hxm.trans hx3)) HM.out.symm).mono ?_); rintro e w4 ⟨rfl, rfl⟩)
  | ((with_reducible apply gS 30); refine wl_run_g (by rfl) (.bool true) (ex_eql rfl rfl rfl (by simp)) ?_)
  | ((with_reducible apply gS 34); refine wl_run_g (by rfl) (.bool true) (ex_eql rfl rfl rfl (by simp)) ?_))
 go_ret
 exact ⟨rfl, ((hx1.trans hx2).trans hxm).trans hx3⟩
end Go.Proofs.YtlhggcbpipmjhaaGreatDoor.deskRuns
namespace Go.Proofs.YtlhggcbpipmjhaaGreatDoor
set_option linter.unusedVariables false
set_option linter.unusedSimpArgs false
open Go.RowKit
section
open Go.RowKit Go.ChangeShapes Go.WideShapes Go.ChangeAt
section
variable {H : Type} {enc : TypeId × Value → H} {w : World} {base : Nat} {spare : Nat → Bool} {held : Bool}
theorem slice_value {P : Program} {r : Reach} {b0 : Nat} {t e : TypeId} {v : Value} {u : Value} (ht : P.underlying t = some (.slice e)) (hv : Value.okWide P w r b0 t v) (hc : v.cells.toList = [u]) (hu : ∀ cs, u ≠ .agg cs) : v = u := by
 cases v with
 | agg cs =>
   simp [Value.okWide, ht, Cell.okWide, Cell.ok] at hv
 | _ => simpa [Value.cells] using hc
end
end
section
open Go.RowKit Go.ChangeShapes Go.WideShapes Go.ChangeAt
section
variable {H : Type} {enc : TypeId × Value → H} {w : World} {base : Nat} {spare : Nat → Bool} {held : Bool}
set_option maxRecDepth 20000 in
theorem open_strings_v {b0 : Nat} {r : Reach} {v : Value} {d : DataW H} {p : List MemPlace} (hv : Value.okWide Tryz.prog w r b0 22 v) (h : DataW.Trod enc Tryz.prog w base spare held 22 v d p) :
 ∃ L : List ByteArray, SL w 1 v L.length (L.map Value.string) := by
 obtain ⟨fuel, hf⟩ := h
 rcases open_strings Tryz.underlying22 Tryz.underlying9 (by kernel_rfl) hf with ⟨hcs, -⟩ | ⟨a, len, cap, ss, hcs, -, hlc, hcm, hzl, -, hcell, -⟩
 ·obtain rfl := slice_value Tryz.underlying22 hv hcs (by simp)
  exact ⟨[], SL.nil w 1⟩
 ·obtain rfl := slice_value Tryz.underlying22 hv hcs (by simp)
  have hlen : len ≤ ss.length := by rw [hzl]; split <;> omega
  have hl : (ss.take len).length = len := by rw [List.length_take]; omega
  refine ⟨ss.take len, ?_⟩
  rw [hl]
  refine ⟨some a, cap, rfl, hlc, by unfold maxLen at hcm; omega, by rw [List.length_map, hl]; omega, fun h0 => ⟨a, rfl, ?_, fun j u hu => ?_⟩⟩
  ·have := hcell 0 (by omega)
   have h2 := World.block_lt_of_cell? w _ this
   rwa [block_of_add] at h2
  ·rw [List.getElem?_map] at hu
   obtain ⟨z, hz, rfl⟩ := Option.map_eq_some_iff.1 hu
   have hj : j < len := by have := (List.getElem?_eq_some_iff.1 hz).1; omega
   rw [List.getElem?_take_of_lt hj] at hz
   rw [hcell j (by omega)]
   simp [List.getD_eq_getElem?_getD, hz]
end
end
section
open Go.RowKit Go.ChangeShapes Go.WideShapes Go.ChangeAt
theorem own : ownKnob Tryz.prog.godebug = none := by kernel_rfl
theorem laidOut : laidOutB Tryz.prog = true := by kernel_rfl
section
variable {H : Type} {enc : TypeId × Value → H} {P : Program}
theorem below_trodAll (hl : laidOutB P = true) {W W' : World} (hb : Below W.heap.size W W') : ∀ {ts : List TypeId} {vs : List Value} {ds : List (DataW H)} {ps : List MemPlace},
 (∀ t ∈ ts, P.readableRec t = true ∧ t < P.types.size) → DataW.TrodAll enc P W 0 (fun _ => true) true ts vs ds ps → (∀ x ∈ ps, x.block < W.heap.size) →
 DataW.TrodAll enc P W' 0 (fun b => decide (b < W.heap.size)) true ts vs ds ps
 | [], _, _, _, _, h, _ => by
   obtain ⟨rfl, rfl, rfl⟩ := trodAll_nil h
   exact trodAll_mk0
 | t :: ts, vs, ds, ps, hr, h, hlt => by
   obtain ⟨v, vs1, d, ds1, a, b, rfl, rfl, rfl, h1, h2⟩ := trodAll_cons h
   exact ⟨a, b, Below.trod hl (hr t (by simp)).1 (hr t (by simp)).2 h1 hb (fun x hx => hlt x (by simp [hx])),
    below_trodAll hl hb (fun t ht => hr t (by simp [ht])) h2 (fun x hx => hlt x (by simp [hx])), rfl⟩
theorem law_post {f : Func} {s : ChangeSpec} {W W' : World} {args : Array Value} {ds gs : List (DataW H)} {before : List MemPlace}
 (hl : laidOutB P = true) (tb : TypeId) (htb : P.underlying tb = some .bool) (hft : f.resultTypes = #[tb]) (hvars : s.vars = [])
 (hr : ∀ t ∈ f.params.toList, P.readableRec t = true ∧ t < P.types.size)
 (hW : DataW.Whole enc P f.params.toList s.vars false W args.toList ds gs before)
 (hfn : s.fn H (ds ++ gs) = { results := [.lit (.bool true)], args := ds })
 (hb : Ext W W') : s.post enc P f false true false false W args (.bool true) W' := by
 have hlt : ∀ p ∈ before, p.block < W.heap.size := fun p hp => by simpa using hW.lt p hp
 have hW' := hW
 obtain ⟨p, q, hA, hV, rfl, hfz, hnd⟩ := hW
 rw [hvars] at hV
 obtain ⟨rfl, rfl⟩ := trodVars_none hV
 simp only [List.append_nil] at hlt hW'
 refine ⟨ds, [], p, [], p, [], hW', ?_, ?_, ?_, ?_, fun h => by cases h⟩
 ·rw [hft, hfn]
  exact trodAll_cons_mk (shut_bool htb _) trodAll_mk0
 ·rw [hfn]
  exact below_trodAll hl hb hr hA hlt
 ·rw [hfn, hvars]
  rfl
 ·exact World.keptBut_mono (fun p hp => ⟨hp, Or.inr (Or.inl hp)⟩) (hb.frame (· ∈ p))
end
end
section
open Go.ChangeShapes Go.WideShapes Go.ChangeAt Go.RowKit
theorem maxLen_cell {W : World} (h : W.ShapedOpen Tryz.prog) : ∃ m, W.cell? ⟨1, 0, none⟩ = some (.int .i64 m) :=
 Go.Proofs.cell_of_shapedOpen_int (zero := #[.int .i64 0]) (t := 3) h (of_decide_eq_true (by kernel_rfl)) (by kernel_rfl) rfl (by kernel_rfl) (by kernel_rfl) Tryz.underlying3
def layCells (cs : Array Value) : Obj → Obj
 | .cells _ t frozen => .cells cs t frozen
 | o => o
def nums (k : IntKind) (l : List Nat) : Array Value := (l.map fun n : Nat => Value.int k n).toArray
noncomputable def low : Nat := (World.holding Tryz.prog default ⟨#[], #[], []⟩).heap.size
noncomputable def laidWorld (os : Os) : World :=
 let w0 := World.holding Tryz.prog os ⟨#[.cells #[.string ⟨#[118, 97, 108, 117, 101, 32, 111, 117, 116, 32, 111, 102, 32, 114, 97, 110, 103, 101]⟩] 187, .cells #[.string ⟨#[105, 110, 118, 97, 108, 105, 100, 32, 115, 121, 110, 116, 97, 120]⟩] 187], #[], []⟩
 { w0 with
  heap := ((((((w0.heap.modify 4 (layCells (nums .u8 Go.Pinned.utf8FirstZ))).modify 5 (layCells (nums .u8 [128, 191, 160, 191, 128, 159, 144, 191, 128, 143, 0, 0, 0, 0, 0, 0, 0, 0, 0, 0, 0, 0, 0, 0, 0, 0, 0, 0, 0, 0, 0, 0]))).modify 6 (layCells (nums .u8 [0, 1, 28, 2, 29, 14, 24, 3, 30, 22, 20, 15, 25, 17, 4, 8, 31, 27, 13, 23, 21, 19, 16, 7, 26, 12, 18, 6, 11, 5, 10, 9]))).modify 7 (layCells (nums .u8 [0, 1, 56, 2, 57, 49, 28, 3, 61, 58, 42, 50, 38, 29, 17, 4, 62, 47, 59, 36, 45, 43, 51, 22, 53, 39, 33, 30, 24, 18, 12, 5, 63, 55, 48, 27, 60, 41, 37, 16, 46, 35, 44, 21, 52, 32, 23, 11, 54, 26, 40, 15, 34, 20, 31, 10, 25, 14, 19, 9, 13, 8, 7, 6]))).modify 0 (layCells (nums .u64 [1, 10, 100, 1000, 10000, 100000, 1000000, 10000000, 100000000, 1000000000, 10000000000, 100000000000, 1000000000000, 10000000000000, 100000000000000, 1000000000000000, 10000000000000000, 100000000000000000, 1000000000000000000, 10000000000000000000]))).modify 3 (layCells #[.iface 185 (.pointer (some ⟨low, 0, none⟩))])).modify 2 (layCells #[.iface 185 (.pointer (some ⟨low + 1, 0, none⟩))]) }
theorem pow_is : (Rows.laid_internal_strconv_uint64pow10 : DataW Unit) = Lib.tabData .u64 Lib.pow10Tab := by kernel_rfl
set_option maxRecDepth 100000 in
theorem laid_met_desk (os : Os) (args : Array Value) : laidMet Tryz.prog Rows.deskRunsRow.laid ((laidWorld os).forCall (fun _ _ => 0) ⟨#[], args, []⟩).memory :=
 laidMet_of_run' 8 (by kernel_rfl) (by kernel_rfl)
theorem gPow : Tryz.prog.globalNamed "internal/strconv.uint64pow10" = some 0 := by kernel_rfl
theorem gSyn : Tryz.prog.globalNamed "strconv.ErrSyntax" = some 2 := by kernel_rfl
theorem gRan : Tryz.prog.globalNamed "strconv.ErrRange" = some 3 := by kernel_rfl
theorem rowErr (u : TypeId) (h : Tryz.prog.typeName? 3 u = some "*errors.errorString") : u = 185 :=
 typeName_ptr_named (nm := "errors.errorString") (by kernel_rfl) (by kernel_rfl) (by decide) u h
theorem var_lt {W : World} {n : String} {g : Nat} {c : Value} (hg : Tryz.prog.globalNamed n = some g) (h : W.var? Tryz.prog n = some #[c]) : g < W.heap.size := by
 have := World.var?_cell hg h 0
 exact World.block_lt_of_cell? W _ (this.trans rfl)
theorem env_of {W : World} (h : laidMetH Tryz.prog Rows.deskRunsRow.laid W) : EnvW W := by
 have h0 : laidMet Tryz.prog Rows.deskRunsRow.laid W := h
 have h2 := h0.tail.tail
 have hT : Lib.TabIs Tryz.prog W "internal/strconv.uint64pow10" .u64 Lib.pow10Tab := by
  have h3 := h2
  rw [pow_is] at h3
  exact Lib.tabIs_of_head gPow (by kernel_rfl) Tryz.underlying150 Tryz.underlying112 (by kernel_rfl) (by kernel_rfl) h3
 have h4 := h2.tail.tail
 obtain ⟨a1, s1, hv1, -⟩ := laid_sentinel h4 gRan (by kernel_rfl) Tryz.underlying79 rowErr Tryz.underlying185 Tryz.underlying187 rfl rfl Tryz.underlying9 (by kernel_rfl) (by kernel_rfl)
 obtain ⟨a2, s2, hv2, -⟩ := laid_sentinel h4.tail gSyn (by kernel_rfl) Tryz.underlying79 rowErr Tryz.underlying185 Tryz.underlying187 rfl rfl Tryz.underlying9 (by kernel_rfl) (by kernel_rfl)
 refine ⟨fun W' hx => Joins.tab_stays gPow hT hx (Nat.le_refl _), _, _, _, _, fun W' hx => ⟨var?_below hx gSyn (var_lt gSyn hv2) hv2, var?_below hx gRan (var_lt gRan hv1) hv1⟩⟩
end
end Go.Proofs.YtlhggcbpipmjhaaGreatDoor
