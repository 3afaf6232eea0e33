/- Contracts for the law DeskRunsCard, part 27: what the functions that it reaches answer, for all arguments that the theorems name. -/
import Derived.Test.YtlhggcbpipmjhaaGreatDoorMDeskRunsCard26
namespace Go.Proofs.YtlhggcbpipmjhaaGreatDoor
set_option linter.unusedVariables false
set_option linter.unusedSimpArgs false
open Go.RowKit
theorem Desk.setq {w : World} {g : Nat} {b q : List Int} (h : Desk w g b q) (hb : b.length = 64) (i : Nat) (hi : i < q.length) (z : Int) : Desk (w.setCell ⟨g, 64 + i, none⟩ (.int .i64 z)) g b (q.set i z) := by
 have h1 := Blk.set_ h (64 + i) (.int .i64 z)
 have e : (bv (b ++ q)).setIfInBounds (64 + i) (.int .i64 z) = bv (b ++ q.set i z) := by
  unfold bv ints
  rw [List.setIfInBounds_toArray, ← List.map_set, List.set_append_right _ _ (by omega), hb, Nat.add_sub_cancel_left]
 rwa [e] at h1
theorem own_updG {w w' : World} {base g n size : Nat} {e : TypeId} {v : Value} {xs : List Value} (h : w.ownsRow base e size v n xs) (hu : Upd (fun x => x = g) w w') (hg : g < base) : w'.ownsRow base e size v n xs := by
 obtain ⟨hl, hh⟩ := h
 refine ⟨hl, ?_⟩
 rcases hh with ⟨rfl, rfl⟩ | ⟨g1, cap, cur, rfl, h1, hg1, h2⟩
 ·exact .inl ⟨rfl, rfl⟩
 ·exact .inr ⟨g1, cap, cur, rfl, h1, (hu.block g1 (Blk.lt (w := w) (t := e) (cs := cur) hg1) (by omega)).trans hg1, h2⟩
theorem builtDesk : Tryz.prog.built 32 [] = some (bv (zeros64 ++ zeros64)) := by kernel_rfl
theorem line_err (b q : List Int) (ws : List (List UInt8)) (h : (lineZ b q ws).e ≠ 0) : (lineZ b q ws).b = b ∧ (lineZ b q ws).q = q := by
 have key : ∀ k n, (actZ k b q n).e ≠ 0 → (actZ k b q n).b = b ∧ (actZ k b q n).q = q := by
  intro k n
  unfold actZ
  split
  ·unfold setZ; split <;> (try split) <;> simp [noZ]
  ·unfold coarseZ; split <;> simp [noZ]
  ·simp [showZ]
  ·unfold syZ; split <;> simp [noZ]
  ·unfold byZ; split <;> simp [noZ]
  ·unfold byZ; split <;> simp [noZ]
  ·unfold byZ; split <;> simp [noZ]
  ·unfold byZ; split <;> simp [noZ]
  ·unfold sizeZ; split <;> simp [noZ]
  ·unfold tintZ; split <;> simp [noZ]
  ·unfold tintZ; split <;> simp [noZ]
  ·unfold bstZ; split <;> simp [noZ]
 unfold lineZ at h ⊢
 split
 ·exact ⟨rfl, rfl⟩
 ·next w r =>
  simp only at h ⊢
  split
  ·exact ⟨rfl, rfl⟩
  ·next k hk =>
   simp only [hk] at h
   split
   ·next hok =>
    rw [if_pos hok] at h
    split
    ·exact ⟨rfl, rfl⟩
    ·next n hn =>
     simp only [hn] at h
     exact key _ _ h
   ·exact ⟨rfl, rfl⟩
def bigL (L : List ByteArray) : Bool := decide (60 < L.length) || L.any (fun s => decide (300 < s.size))
def outZ (L : List ByteArray) : List (List UInt8) := if bigL L then [] else (runZ (L.map (·.data.toList))).1
def errZ (L : List ByteArray) : Int := if bigL L then 2 else 0
def RunIs (L : List ByteArray) (w : World) (e : Ending) (w' : World) : Prop :=
 ∃ A c n, n = (outZ L).length ∧ e = .returned (.tuple #[.slice A n c, .int .i64 (errZ L)]) ∧ SL w' 1 (.slice A n c) n (strsV (outZ L)) ∧ Ext w w'
theorem run_bad_is {L : List ByteArray} (h : bigL L = true) {w w' : World} (hx : Ext w w') : RunIs L w (.returned (.tuple #[.slice none 0 0, .int .i64 2])) w' := by
 refine ⟨none, 0, 0, ?_, ?_, ?_, hx⟩
 ·simp [outZ, h]
 ·simp [errZ, h]
 ·simp only [outZ, h, if_true]
  exact SL.nil _ _
theorem run_good_is {L : List ByteArray} (h : bigL L = false) {w w' : World} (hx : Ext w w') {A : Option Addr} {c : Nat} (hs : SL w' 1 (.slice A L.length c) L.length (strsV (runZ (L.map (·.data.toList))).1)) : RunIs L w (.returned (.tuple #[.slice A L.length c, .int .i64 0])) w' := by
 refine ⟨A, c, L.length, ?_, ?_, ?_, hx⟩
 ·simp [outZ, h, runZ_len]
 ·simp [errZ, h]
 ·simpa [outZ, h] using hs
theorem small_of {L : List ByteArray} (h1 : L.length ≤ 60) (h2 : ∀ s ∈ L, s.size ≤ 300) : bigL L = false := by
 unfold bigL
 rw [Bool.or_eq_false_iff]
 refine ⟨by simpa using h1, ?_⟩
 rw [List.any_eq_false]
 intro s hs
 have := h2 s hs
 simpa using this
theorem strsV_snoc (L : List (List UInt8)) (x : List UInt8) : strsV (L ++ [x]) = strsV L ++ [strV x] := by simp [strsV]
abbrev errS : List UInt8 := [101, 114, 114, 111, 114, 32]
theorem itoa_small (e : Nat) (h : e ≤ 9) : (Lib.itoa (e : Int)).length ≤ 1000 := by rw [itoa_lo (by omega) (by omega)]; simp
theorem Ext.updG {a w w' : World} {g : Nat} (h : Ext a w) (hu : Upd (fun x => x = g) w w') (hg : a.heap.size ≤ g) : Ext a w' := hu.ext h (fun x hx => by omega)
def RunSt (g : Nat) (wb w : World) (ls : List (List UInt8)) (k : Nat) (sv iv : Value) (wr : World) : Prop := ∃ (i : Nat) (B : Option Addr) (d : Nat), i ≤ k ∧ iv = .int .i64 (i : Int) ∧ sv = .slice B i d ∧ wr.ownsRow wb.heap.size 9 1 (.slice B i d) i (strsV (runZ (ls.take i)).1) ∧ Desk wr g (runZ (ls.take i)).2.1 (runZ (ls.take i)).2.2 ∧ Ext w wr ∧ wb.heap.size ≤ wr.heap.size
set_option maxRecDepth 20000 in
set_option maxHeartbeats 8000000 in
theorem run_good (v : Value) (L : List ByteArray) (w : World) (hE : EnvW w) (hL : L.length ≤ 60) (hall : ∀ s ∈ L, s.size ≤ 300) (hv : SL w 1 v L.length (L.map Value.string)) :
 Calls Tryz.prog 4 #[v] w (RunIs L w) := by
 have HSM := hid_ (small_of hL hall)
 obtain ⟨A, c, rfl, hc1, hc2, -, -⟩ := id hv
 obtain ⟨N, hN⟩ : ∃ N, L.length = N := ⟨_, rfl⟩
 have HN := hid_ hN
 have HALL := hid_ hall
 have HE := hid_ hE
 rw [hN] at hv hL hc1 ⊢
 have HV := hid_ hv
 have HA1 : Hid (decide (((60 : Nat) : Int) < (N : Int)) = false) := hid_ (by simp; omega)
 obtain ⟨cz, hcz⟩ : ∃ cz, bv (zeros64 ++ zeros64) = cz := ⟨_, rfl⟩
 have HBD := hid_ builtDesk
 rw [hcz] at HBD
 have HCZ := hid_ hcz
 obtain ⟨ls, hls⟩ : ∃ ls, L.map (·.data.toList) = ls := ⟨_, rfl⟩
 have HLS := hid_ hls
 have hlN : ls.length = N := by rw [← hls, List.length_map]; exact hN
 have HLN := hid_ hlN
 clear hN hall hE hv hcz hls hlN
 go_enter Tryz.func4, Tryz.ntmps4
 go_wp2_with ((with_reducible apply gS 15); refine wl_run rfl (.bool false) (ex_gtr rfl rfl rfl HA1.out) ?_)
 go_loopw [18] (fun iv wr => ∃ k : Nat, k ≤ N ∧ iv = .int .i64 (k : Int) ∧ w = wr) (fun iv _ => N - (intOf iv).toNat)
 case atStart => exact ⟨0, by omega, rfl, rfl⟩
 case round =>
  obtain ⟨k, hk, rfl, rfl⟩ := hrel
  by_cases hlt : k < N
  ·obtain ⟨ad, u, rfl, hab, hu, hc⟩ := HV.out.at1 hlt
   have hkL : k < L.length := by rw [HN.out]; exact hlt
   have huy : u = .string L[k] := by
    rw [List.getElem?_map, List.getElem?_eq_getElem hkL] at hu
    injection hu with hu
    exact hu.symm
   have hys := HALL.out L[k] (List.getElem_mem hkL)
   subst huy
   clear hu
   generalize L[k] = y at *
   have HY : Hid (decide (((300 : Nat) : Int) < (y.size : Int)) = false) := hid_ (by simp; omega)
   clear hys
   go_wp2_with (first
    | ((with_reducible apply gS 21); refine wl_read rfl (.string y) (ex_loadS1 rfl rfl (by simpa using hc)) ?_)
    | ((with_reducible apply gS 24); refine wl_run rfl (.bool false) (ex_gtr rfl rfl rfl HY.out) ?_))
   go_roundw
   case rel => exact ⟨k + 1, by omega, by go_num, by trivial⟩
   case measure => simp [intOf]; omega
  ·obtain rfl : k = N := by omega
   go_wp2_with (first
    | ((with_reducible apply gS 26); refine wpList_build0 rfl 32 rfl cz HBD.out ?_)
    | ((with_reducible apply gS 27); refine wBox rfl 32 (.tmp 26) rfl cz rfl ?_; intro w1 g hb1 hx1 hg))
   have hd1 : Desk w1 g zeros64 (coK 1 0) := by rw [coK_zero]; unfold Desk; rw [HCZ.out]; exact hb1
   clear hb1
   go_loopw [28] (fun iv wr => ∃ j : Nat, j ≤ 64 ∧ iv = .int .i64 (j : Int) ∧ Desk wr g zeros64 (coK 1 j) ∧ Ext w wr) (fun iv _ => 64 - (intOf iv).toNat)
   case atStart => exact ⟨0, by omega, rfl, hd1, hx1⟩
   case round =>
    clear hd1 hx1
    obtain ⟨j, hj, rfl, hd, hx⟩ := hrel
    by_cases hlt : j < 64
    ·go_wp2_with (first
      | ((with_reducible apply gS 35); refine wl_run rfl (.pointer (some ⟨g, 64 + j, none⟩)) (ex_ixArr1 Tryz.underlying30 sizeI rfl (b := 64) (i := j) rfl rfl hlt) ?_)
      | ((with_reducible show wpList _ _ _ (⟨none, .store _ (.tmp 35) _, _, _, _, _⟩ :: _) _ _); refine wl_storeI rfl (.tmp 35) _ rfl g (64 + j) 1 rfl rfl hd (by rw [bv_size, List.length_append, coK_len _ _ hj]; show 64 + j < 64 + 64; omega) ?_))
     have hd9 := hd.setq rfl j (by rw [coK_len _ _ hj]; exact hlt) 1
     rw [coK_set 1 j hlt] at hd9
     have hx9 := hx.setCell (p := ⟨g, 64 + j, none⟩) hg (.int .i64 1)
     generalize wr.setCell ⟨g, 64 + j, none⟩ (.int .i64 1) = W9 at *
     go_wp2_with fail
     go_roundw
     case rel => exact ⟨j + 1, by omega, by go_num, hd9, hx9⟩
     case measure => simp [intOf]; omega
    ·obtain rfl : j = 64 := by omega
     rw [coK_all] at hd
     go_wp2_with fail
     obtain ⟨wb, rfl⟩ : ∃ wb : World, wb = wr := ⟨_, rfl⟩
     have hgb := hd.lt
     go_loopw [8, 10, 11, 12, 39] (fun sv _ _ _ iv wr => RunSt g wb w ls k sv iv wr) (fun _ _ _ _ iv _ => k - (intOf iv).toNat)
     case atStart => exact ⟨0, none, 0, by omega, rfl, rfl, own_nil _ _ _ _, hd, hx, Nat.le_refl _⟩
     case round =>
      clear hd hx
      obtain ⟨i, B, d, hi, rfl, rfl, hown, hd, hx, hsz⟩ := hrel
      by_cases hlt : i < k
      ·obtain ⟨ad, u, rfl, hab, hu, hc⟩ := (HV.out.ext hx).at1 hlt
       have hiL : i < L.length := by rw [HN.out]; exact hlt
       have hil : i < ls.length := by rw [HLN.out]; exact hlt
       have huy : u = .string L[i] := by
        rw [List.getElem?_map, List.getElem?_eq_getElem hiL] at hu
        injection hu with hu
        exact hu.symm
       have hys := HALL.out L[i] (List.getElem_mem hiL)
       have hyl : L[i].data.toList = ls[i] := by simp only [← HLS.out, List.getElem_map]
       have hts : ls.take (i + 1) = ls.take i ++ [ls[i]] := List.take_succ_eq_append_getElem hil
       have hrs := runZ_snoc (ls.take i) ls[i]
       rw [← hts, ← hyl] at hrs
       have hst := runZ_ok (ls.take i)
       subst huy
       clear hu hyl hts
       generalize L[i] = y at *
       generalize runZ (ls.take i) = R at *
       obtain ⟨o, b, q⟩ := R
       dsimp only at hown hd hst
       unfold stepZ at hrs
       dsimp only at hrs
       have HLI := hid_ (line_any y hys g b q wr hst hd (HE.out.ext hx))
       have hze := line_e b q (wGo [] y.data.toList)
       generalize lineZ b q (wGo [] y.data.toList) = Z at *
       obtain ⟨E, S, b2, q2⟩ := Z
       obtain ⟨e, rfl, he9⟩ : ∃ e : Nat, E = (e : Int) ∧ e ≤ 9 := ⟨E.toNat, by dsimp only at hze; omega, by dsimp only at hze; omega⟩
       dsimp only at hrs
       clear hze hst hys
       by_cases he : e = 0
       ·subst he
        have HRS : Hid (runZ (ls.take (i + 1)) = (o ++ [S], b2, q2)) := hid_ hrs
        have HSN := hid_ (strsV_snoc o S)
        clear hrs
        generalize strsV o = XS at *
        go_wp2_with (first
         | ((with_reducible apply gS 42); refine wl_read rfl (.string y) (ex_loadS1 rfl rfl (by simpa using hc)) ?_)
         | (go_at_call 7; (with_reducible refine HLI.out.mono ?_); rintro e' w2 ⟨s9, rfl, hs9, hd2, hu2⟩; obtain rfl := (hs9 rfl).symm; have hown2 := own_updG hown hu2 hgb; have hx2 := hx.updG hu2 hg; have hsz2 : wb.heap.size ≤ w2.heap.size := Nat.le_trans hsz hu2.size)
         | ((with_reducible apply gS 56); refine wLit1 rfl 22 9 (.tmp 55) rfl (some 56) rfl Tryz.underlying22 1 sizeStr zeroStr _ rfl rfl (by omega) (by omega) ?_; intro w3 gb hbb hx3 hgb3; have hown3 := own_keep hown2 hx3; have hd3 := hd2.ext hx3; have hx13 := hx2.trans hx3; have hsz3 : wb.heap.size ≤ w3.heap.size := Nat.le_trans hsz2 hx3.size)
         | ((with_reducible apply gS 57); refine wApf elt_strD rfl _ _ rfl wb.heap.size _ _ _ rfl hown3 _ 1 [strV S] rfl (hbb.sl (size := 1) (n := 1) (c := 1) rfl (by omega) (by omega)) (strsV_one [S]) (by omega) (by omega) hsz3 ?_; intro B7 d7 w7 hown7 hg7 hrow7))
        have hd7 : Desk w7 g b2 q2 := (upd_grown hg7).blk hd3 (fun hb => by have := (hown3.lt g hb).1; omega)
        have hx7 : Ext w w7 := (upd_grown hg7).ext hx13 (fun b hb => by have := (hown3.lt b hb).1; omega)
        have hsz7 : wb.heap.size ≤ w7.heap.size := Nat.le_trans hsz3 hg7.size
        go_roundw
        case rel =>
         refine ⟨_, _, _, _, _, ?_, rfl, rfl, rfl, rfl, rfl⟩
         refine ⟨i + 1, B7, d7, by omega, by go_num, rfl, ?_, ?_, hx7, hsz7⟩
         ·rw [HRS.out, HSN.out]; exact hown7
         ·rw [HRS.out]; exact hd7
        case measure => simp [intOf]; omega
       ·have hsay : saysZ ⟨(e : Int), S, b2, q2⟩ = errS ++ Lib.itoa (e : Int) := by
         unfold saysZ
         rw [if_neg (by dsimp only; omega)]
        rw [hsay] at hrs
        have HRS : Hid (runZ (ls.take (i + 1)) = (o ++ [errS ++ Lib.itoa (e : Int)], b2, q2)) := hid_ hrs
        have HSN := hid_ (strsV_snoc o (errS ++ Lib.itoa (e : Int)))
        have HI := hid_ (fun W hxx => Tryz.strconv_Itoa (e : Int) (by omega) (by omega) W (HE.out.1 W hxx))
        have HIL := hid_ (itoa_small e he9)
        have HE0 : Hid (decide ((e : Int) ≠ 0) = true) := hid_ (by simpa using he)
        clear hrs hsay he
        generalize strsV o = XS at *
        generalize Lib.itoa (e : Int) = I at *
        go_wp2_with (first
         | ((with_reducible apply gS 42); refine wl_read rfl (.string y) (ex_loadS1 rfl rfl (by simpa using hc)) ?_)
         | (go_at_call 7; (with_reducible refine HLI.out.mono ?_); rintro e' w2 ⟨s9, rfl, hs9, hd2, hu2⟩; have hown2 := own_updG hown hu2 hgb; have hx2 := hx.updG hu2 hg; have hsz2 : wb.heap.size ≤ w2.heap.size := Nat.le_trans hsz hu2.size)
         | ((with_reducible apply gS 50); refine wl_run rfl (.bool true) (ex_neq rfl rfl rfl HE0.out) ?_)
         | (go_at_call 8; (with_reducible refine (HI.out _ hx2).mono ?_); rintro e' wq ⟨rfl, k2, os2, hwq⟩; have hxq : Ext w2 wq := hwq ▸ Lib.below_grow _ w2 (Nat.le_refl _) k2 os2; clear hwq; have hownq := own_keep hown2 hxq; have hdq := hd2.ext hxq; have hx2q := hx2.trans hxq; have hszq : wb.heap.size ≤ wq.heap.size := Nat.le_trans hsz2 hxq.size)
         | ((with_reducible apply gS 53); refine wl_run rfl (.string ⟨(errS ++ I).toArray⟩) (ex_addS (l := [101, 114, 114, 111, 114, 32]) (m := I) rfl rfl rfl (by have := HIL.out; simp only [List.length_cons, List.length_nil]; omega)) ?_)
         | ((with_reducible apply gS 56); refine wLit1 rfl 22 9 (.tmp 55) rfl (some 56) rfl Tryz.underlying22 1 sizeStr zeroStr _ rfl rfl (by omega) (by omega) ?_; intro w3 gb hbb hx3 hgb3; have hown3 := own_keep hownq hx3; have hd3 := hdq.ext hx3; have hx13 := hx2q.trans hx3; have hsz3 : wb.heap.size ≤ w3.heap.size := Nat.le_trans hszq hx3.size)
         | ((with_reducible apply gS 57); refine wApf elt_strD rfl _ _ rfl wb.heap.size _ _ _ rfl hown3 _ 1 [strV (errS ++ I)] rfl (hbb.sl (size := 1) (n := 1) (c := 1) rfl (by omega) (by omega)) (strsV_one [errS ++ I]) (by omega) (by omega) hsz3 ?_; intro B7 d7 w7 hown7 hg7 hrow7))
        have hd7 : Desk w7 g b2 q2 := (upd_grown hg7).blk hd3 (fun hb => by have := (hown3.lt g hb).1; omega)
        have hx7 : Ext w w7 := (upd_grown hg7).ext hx13 (fun b hb => by have := (hown3.lt b hb).1; omega)
        have hsz7 : wb.heap.size ≤ w7.heap.size := Nat.le_trans hsz3 hg7.size
        go_roundw
        case rel =>
         refine ⟨_, _, _, _, _, ?_, rfl, rfl, rfl, rfl, rfl⟩
         refine ⟨i + 1, B7, d7, by omega, by go_num, rfl, ?_, ?_, hx7, hsz7⟩
         ·rw [HRS.out, HSN.out]; exact hown7
         ·rw [HRS.out]; exact hd7
        case measure => simp [intOf]; omega
      ·obtain rfl : i = k := by omega
       have hall : ls.take i = ls := by rw [← HLN.out, List.take_length]
       rw [hall] at hown
       have hs := (own_out hown).1
       go_wp2_with fail
       go_ret2
       have hs' : SL wr 1 (.slice B L.length d) L.length (strsV (runZ (L.map (·.data.toList))).1) := by rw [HLS.out, HN.out]; exact hs
       have := run_good_is HSM.out hx hs'
       rw [HN.out] at this
       exact this
set_option maxRecDepth 20000 in
set_option maxHeartbeats 4000000 in
theorem run_large (v : Value) (L : List ByteArray) (w : World) (hL : 60 < L.length) (n c : Nat) (A : Option Addr) (hv : v = .slice A n c) (hn : n = L.length) : Calls Tryz.prog 4 #[v] w (RunIs L w) := by
 subst hv
 have HB : Hid (bigL L = true) := hid_ (by simp [bigL, hL])
 have HA1 : Hid (decide (((60 : Nat) : Int) < (n : Int)) = true) := hid_ (by rw [hn]; simp; omega)
 clear hn
 go_enter Tryz.func4, Tryz.ntmps4
 go_wp2_with ((with_reducible apply gS 15); refine wl_run rfl (.bool true) (ex_gtr rfl rfl rfl HA1.out) ?_)
 go_ret2
 exact run_bad_is HB.out (Ext.refl _)
set_option maxRecDepth 20000 in
set_option maxHeartbeats 4000000 in
theorem run_long (v : Value) (L : List ByteArray) (w : World) (hL : L.length ≤ 60) (hall : ¬ ∀ s ∈ L, s.size ≤ 300) (hv : SL w 1 v L.length (L.map Value.string)) : Calls Tryz.prog 4 #[v] w (RunIs L w) := by
 have HB : Hid (bigL L = true) := hid_ (by
  obtain ⟨s, h0⟩ := Classical.not_forall.1 hall
  obtain ⟨hs, h⟩ := Classical.not_imp.1 h0
  unfold bigL
  rw [Bool.or_eq_true]
  exact .inr (List.any_eq_true.2 ⟨s, hs, by simp; omega⟩))
 obtain ⟨A, c, rfl, hc1, hc2, -, -⟩ := id hv
 obtain ⟨N, hN⟩ : ∃ N, L.length = N := ⟨_, rfl⟩
 have HN := hid_ hN
 have HALL := hid_ hall
 rw [hN] at hv hL hc1 ⊢
 have HV := hid_ hv
 have HA1 : Hid (decide (((60 : Nat) : Int) < (N : Int)) = false) := hid_ (by simp; omega)
 clear hN hall hv
 go_enter Tryz.func4, Tryz.ntmps4
 go_wp2_with ((with_reducible apply gS 15); refine wl_run rfl (.bool false) (ex_gtr rfl rfl rfl HA1.out) ?_)
 go_loopw [18] (fun iv wr => ∃ k : Nat, k ≤ N ∧ iv = .int .i64 (k : Int) ∧ (∀ s ∈ L.take k, s.size ≤ 300) ∧ w = wr) (fun iv _ => N - (intOf iv).toNat)
 case atStart => exact ⟨0, by omega, rfl, by simp, rfl⟩
 case round =>
  obtain ⟨k, hk, rfl, hp, rfl⟩ := hrel
  by_cases hlt : k < N
  ·obtain ⟨ad, u, rfl, hab, hu, hc⟩ := HV.out.at1 hlt
   have hkL : k < L.length := by rw [HN.out]; exact hlt
   have huy : u = .string L[k] := by
    rw [List.getElem?_map, List.getElem?_eq_getElem hkL] at hu
    injection hu with hu
    exact hu.symm
   have HTS := hid_ (List.take_succ_eq_append_getElem hkL)
   have HP := hid_ hp
   subst huy
   clear hu hp
   generalize L[k] = y at *
   by_cases hys : y.size ≤ 300
   ·have HY : Hid (decide (((300 : Nat) : Int) < (y.size : Int)) = false) := hid_ (by simp; omega)
    have HP2 : Hid (∀ s ∈ L.take (k + 1), s.size ≤ 300) := hid_ (fun s hs => by
     rw [HTS.out] at hs
     rcases List.mem_append.1 hs with h | h
     ·exact HP.out s h
     ·simp at h; subst h; exact hys)
    clear hys
    go_wp2_with (first
     | ((with_reducible apply gS 21); refine wl_read rfl (.string y) (ex_loadS1 rfl rfl (by simpa using hc)) ?_)
     | ((with_reducible apply gS 24); refine wl_run rfl (.bool false) (ex_gtr rfl rfl rfl HY.out) ?_))
    go_roundw
    case rel => exact ⟨k + 1, by omega, by go_num, HP2.out, by trivial⟩
    case measure => simp [intOf]; omega
   ·have HY : Hid (decide (((300 : Nat) : Int) < (y.size : Int)) = true) := hid_ (by simp; omega)
    clear hys
    go_wp2_with (first
     | ((with_reducible apply gS 21); refine wl_read rfl (.string y) (ex_loadS1 rfl rfl (by simpa using hc)) ?_)
     | ((with_reducible apply gS 24); refine wl_run rfl (.bool true) (ex_gtr rfl rfl rfl HY.out) ?_))
    go_ret2
    exact run_bad_is HB.out (Ext.refl _)
  ·exfalso
   obtain rfl : k = N := by omega
   refine HALL.out ?_
   rwa [← HN.out, List.take_length] at hp
theorem run_any (v : Value) (L : List ByteArray) (w : World) (hE : EnvW w) (hv : SL w 1 v L.length (L.map Value.string)) : Calls Tryz.prog 4 #[v] w (RunIs L w) := by
 by_cases hL : 60 < L.length
 ·obtain ⟨A, c, rfl, -⟩ := id hv
  exact run_large _ L w hL L.length c A rfl rfl
 ·by_cases hall : ∀ s ∈ L, s.size ≤ 300
  ·exact run_good v L w hE (by omega) hall hv
  ·exact run_long v L w (by omega) hall hv
end Go.Proofs.YtlhggcbpipmjhaaGreatDoor
