/- Contracts for the law DeskRunsCard, part 19: what the functions that it reaches answer, for all arguments that the theorems name. -/
import Derived.Test.YtlhggcbpipmjhaaGreatDoorMDeskRunsCard18
import Derived.Test.YtlhggcbpipmjhaaGreatDoorMDeskRunsCard7
import Derived.Test.YtlhggcbpipmjhaaGreatDoorMDeskRunsCard11
import Derived.Test.YtlhggcbpipmjhaaGreatDoorMDeskRunsCard6
import Derived.Test.YtlhggcbpipmjhaaGreatDoorMDeskRunsCard5
import Derived.StringKeys
import Derived.Test.YtlhggcbpipmjhaaGreatDoorMDeskRunsCard4
import Derived.Test.YtlhggcbpipmjhaaGreatDoorMDeskRunsCard13
import Derived.Test.YtlhggcbpipmjhaaGreatDoorMDeskRunsCard10
import Derived.Test.YtlhggcbpipmjhaaGreatDoorMDeskRunsCard1
import Derived.Deep.Cut
import Derived.Test.YtlhggcbpipmjhaaGreatDoorMDeskRunsCard14
namespace Go.Proofs.YtlhggcbpipmjhaaGreatDoor
set_option linter.unusedVariables false
set_option linter.unusedSimpArgs false
open Go.RowKit
theorem builtT0 : Tryz.prog.built 105 [] = some (tblv (List.replicate 16 0) (.slice none 0 0)) := by
 show _ = some (ints (List.replicate 16 0) ++ [Value.slice none 0 0]).toArray
 kernel_rfl
set_option maxRecDepth 20000 in
set_option maxHeartbeats 2000000 in
theorem make_bad (counts : List Int) (A : Option Addr) (n c : Nat) (hn : counts.length = n) (w : World) (hv : SL w 1 (.slice A n c) n (ints counts)) (hb : bcheckZ counts ≠ 0) :
 Calls Tryz.prog 79 #[.slice A n c] w fun e w' => e = .returned (.tuple #[.agg (tblv (List.replicate 16 0) (.slice none 0 0)), .int .i64 (bcheckZ counts)]) ∧ Ext w w' := by
 have HB := hid_ (fun W (hx : Ext w W) => bcheck_any counts (.slice A n c) W (by rw [hn]; exact hv.ext hx))
 have hz2 : (bcheckZ counts != 0) = true := by simpa using hb
 have HT := hid_ builtT0
 have HZ := zeroTblM
 have hts := hid_ (tblv_size (List.replicate 16 0) (.slice none 0 0) (by simp))
 have hzs : Hid ((Value.agg (tblv (List.replicate 16 0) (.slice none 0 0))).cells.size = 17) := hid_ (tblv_size _ _ (by simp))
 have HON := hid_ (tblM_one (List.replicate 16 0) none 0 0)
 generalize bcheckZ counts = z at *
 generalize tblv (List.replicate 16 0) (.slice none 0 0) = tv at *
 clear hb
 go_enter Tryz.func79, Tryz.ntmps79
 go_wp2_with (first
  | ((with_reducible apply gS 2); refine wAlo' rfl (some 2) rfl 105 rfl _ HZ ?_; intro w1 gp hp1 hx1 hgp)
  | (go_at_call 103; (with_reducible refine (HB.out _ hx1).mono ?_); rintro e w2 ⟨rfl, rfl⟩)
  | ((with_reducible apply gS 23); refine wpList_build0_g (by rfl) 105 rfl _ HT.out ?_)
  | ((with_reducible apply gT 2 23); refine wStB rfl 105 (.tmp 2) (.tmp 23) rfl gp tv rfl rfl hp1 17 sizeTbl hts.out hzs.out HON.out ?_; intro w5 hb5 hg5; have hx5 := hx1.grown hg5 hgp))
 exact ret_cell_tmp rfl rfl gp rfl hb5 _ Tryz.underlying105 rfl 17 sizeTbl hts.out ⟨rfl, hx5⟩
set_option maxRecDepth 20000 in
set_option maxHeartbeats 1000000 in
theorem bested_any (g : Nat) (b q n : List Int) (v : Value) (w : World) (hD : Desk w g b q) (hv : SL w 1 v n.length (ints n)) (htab : ∀ W, Ext w W → Lib.TabIs Tryz.prog W "internal/strconv.uint64pow10" .u64 Lib.pow10Tab) :
 Calls Tryz.prog 49 #[.pointer (some ⟨g, 0, none⟩), v] w (ActIs (bstZ b q n) g w) := by
 obtain ⟨A, c, rfl, -⟩ := id hv
 unfold bstZ
 obtain ⟨N, hN⟩ : ∃ N, n.length = N := ⟨_, rfl⟩
 have HZ := zeroTblM
 have hzz := hid_ (tblv_size (List.replicate 16 0) (.slice none 0 0) (by simp))
 have hzs : Hid ((Value.agg (tblv (List.replicate 16 0) (.slice none 0 0))).cells.size = 17) := hid_ (tblv_size _ _ (by simp))
 have HZO := hid_ (tblM_one (List.replicate 16 0) none 0 0)
 by_cases hb : bcheckZ n = 0
 ·rw [if_pos hb]
  have HM := hid_ (make_good n A n.length c rfl w hv hb)
  have HC := hid_ (fun cs xs sl W (hl : cs.length = 16) (hs : SL W 1 sl xs.length (ints xs)) (hx : Ext w W) (hM : BM.Made n cs xs) => by
   have h := cost_any cs xs n sl (.slice A n.length c) W hl hs (hv.ext hx)
   have e := (BM.made_good hM hb).2.2 _ (List.mergeSort_perm _ _) (BM.sorted_ok _)
   rw [e, BM.best_of (List.mergeSort_perm _ _) (BM.sorted_ok _)] at h
   exact h)
  have HTS := hid_ (fun (cs : List Int) v (h : cs.length = 16) => tblv_size cs v h)
  have HTO := hid_ (fun (cs : List Int) => tblM_one cs)
  have HT := told_lit [BM.bestOf n] (by simp) (by simp) (fun z hz => by have := BM.bestOf_bd hb; simp only [List.mem_singleton] at hz; subst hz; omega) htab
  obtain ⟨T, hT⟩ : ∃ T, toldZ [BM.bestOf n] = T := ⟨_, rfl⟩
  rw [hT] at HT ⊢
  clear hT hb htab
  rw [hN] at hv HM HC
  generalize BM.bestOf n = B at *
  generalize tblv (List.replicate 16 0) (.slice none 0 0) = tz at *
  rw [hN]
  clear hN
  go_enter Tryz.func49, Tryz.ntmps49
  go_wp2_with (first
   | (go_at_call 79; (with_reducible refine HM.out.mono ?_); rintro e w1 ⟨cs, xs, B1, d, rfl, hM, hcl, ho, hx1⟩; have hs1 := (own_out ho).1; generalize hxl : xs.length = xn at *)
   | ((with_reducible apply gS 6); refine wAlo' rfl (some 6) rfl 105 rfl _ HZ ?_; intro w2 gt hbt hx2 hgt)
   | ((with_reducible apply gT 6 12); refine wStB rfl 105 (.tmp 6) (.tmp 12) rfl gt (tblv cs (.slice B1 xn d)) rfl rfl hbt 17 sizeTbl (HTS.out _ _ hcl) hzs.out (HTO.out _ _ _ _) ?_; intro w3 hb3 hg3; have hx13 := hx2.grown hg3 hgt; have hs3 := hs1.ext hx13; have hx03 := hx1.trans hx13)
   | ((with_reducible apply gS 18); refine wLdB rfl 105 (.tmp 6) rfl gt rfl hb3 _ Tryz.underlying105 rfl 17 sizeTbl (HTS.out _ _ hcl) ?_)
   | (go_at_call 80; (with_reducible refine (HC.out cs xs _ _ hcl (by rw [hxl]; exact hs3) hx03 hM).mono ?_); rintro e w4 ⟨rfl, hx4⟩; have hx04 := hx03.trans hx4)
   | ((with_reducible apply gS 24); refine lit1I rfl (.tmp 23) rfl (some 24) rfl B rfl ?_; intro w5 gb hs5 hx5 hgb; have hx05 := hx04.trans hx5)
   | (go_at_call 65; (with_reducible refine (HT.out _ 1 _ hx05 rfl hs5).mono ?_); rintro e w6 ⟨rfl, hx6⟩))
  go_ret2
  have hx := hx05.trans hx6
  exact okAct (hD.ext hx) (Upd.of_ext hx)
 ·rw [if_neg hb]
  have HM := hid_ (make_bad n A n.length c rfl w hv hb)
  have HB := hid_ hb
  have hz2 : (bcheckZ n != 0) = true := by simpa using hb
  clear hb htab
  rw [hN] at hv HM
  generalize bcheckZ n = B at *
  generalize tblv (List.replicate 16 0) (.slice none 0 0) = tz at *
  rw [hN]
  clear hN
  go_enter Tryz.func49, Tryz.ntmps49
  go_wp2_with (first
   | (go_at_call 79; (with_reducible refine HM.out.mono ?_); rintro e w1 ⟨rfl, hx1⟩)
   | ((with_reducible apply gS 6); refine wAlo' rfl (some 6) rfl 105 rfl _ HZ ?_; intro w2 gt hbt hx2 hgt)
   | ((with_reducible apply gT 6 12); refine wStB rfl 105 (.tmp 6) (.tmp 12) rfl gt tz rfl rfl hbt 17 sizeTbl hzz.out hzs.out HZO.out ?_; intro w3 hb3 hg3; have hx13 := hx2.grown hg3 hgt; have hx03 := hx1.trans hx13))
  go_ret2
  exact noAct HB.out hD hx03
section
open Go.RowKit Go.Maps
abbrev MapS (P : Program) (k : TypeId) (w : World) (b n : Nat) (g : List UInt8 → Option Value) : Prop := MapG P k (fun x : List UInt8 => Lit.string x) (fun _ => True) w b n g
theorem keyS {P : Program} {k : TypeId} (hk : P.underlying k = some .string) {l : List UInt8} (hl : l.length ≤ 1000000) : keyOf P k (.string ⟨l.toArray⟩) = some (.string l) :=
 WideMaps.keyOf_string_mk hk (s := ⟨l.toArray⟩) (by have : (⟨l.toArray⟩ : ByteArray).size = l.length := by show l.toArray.size = _; simp
                                                    rw [this]; unfold maxLen; omega)
section
variable {P : Program} {k : TypeId} {w : World} {b n : Nat} {g : List UInt8 → Option Value}
variable {ops : Array Oper} {rest : List Oper} {o : Oper} {a : Act} {Q : Exit → Act → World → Prop}
theorem wpList_ins_s (hw : Region.wanted o (yielded ops a.tmps) = true) (m x y : Operand) (t e : TypeId) (hop : o.op = Op.insert t m x y) (hks : P.underlying k = some .string) (ht : P.underlying t = some (.map k e))
 (hm : a.eval m = .map (some b)) (h : MapS P k w b n g) (hn : n < 9223372036854775807) (i : List UInt8) (hi : i.length ≤ 1000000) (hx : a.eval x = .string ⟨i.toArray⟩) (v : Value) (hy : a.eval y = v)
 (hK : ∀ w', MapS P k w' b (n + 1) (fun j => if j = i then some v else g j) → w.grownBy w' (some b) → wpList P ops Q rest (a.put o.dst undef) w') : wpList P ops Q (o :: rest) a w := by
 refine wpList_wanted hw fun K' hK' => ?_
 have K : Keyed P k := string_keyed hks
 have hk := keyS (P := P) hks hi
 obtain ⟨D, d1, d3, d2⟩ := h
 obtain ⟨w', hrun, r1, r2⟩ := d1.update K ht (by unfold maxLen; omega) hk (val := v) (d := .held v) (ps := []) rfl
 unfold Oper.wp
 simp [execOp, hop, hm, hx, hy, hrun, Result.andThen]
 refine hK' _ _ (hK w' ⟨_, r1, d3.put _ _, fun j hj => ?_⟩ r2)
 dsimp only
 by_cases e1 : j = i
 ·subst e1
  rw [has_put_same d3 (K.key hk), if_pos rfl]
  exact ⟨rfl, fun z => atKey_put_same d3 (K.key hk) _ _⟩
 ·have e2 : Lit.string j ≠ Lit.string i := fun h => e1 (by injection h)
  rw [has_put_other e2, if_neg e1]
  exact ⟨(d2 j hj).1, fun z => by rw [atKey_put_other e2]; exact (d2 j hj).2 z⟩
end
end
def TabW (w : World) : Prop := ∀ W, Ext w W → Lib.TabIs Tryz.prog W "internal/strconv.uint64pow10" .u64 Lib.pow10Tab
theorem TabW.ext {w w' : World} (h : TabW w) (hx : Ext w w') : TabW w' := fun W hW => h W (hx.trans hW)
def Above (lo : Nat) (w W : World) : Prop := w.heap.size ≤ W.heap.size ∧ ∀ x, lo ≤ x → x < w.heap.size → W.heap[x]? = w.heap[x]?
theorem Above.of_ext {lo : Nat} {w W : World} (h : Ext w W) : Above lo w W := ⟨h.size, fun x _ hx => h.block x hx⟩
theorem Above.trans {lo : Nat} {a b c : World} (h : Above lo a b) (k : Above lo b c) : Above lo a c := ⟨Nat.le_trans h.1 k.1, fun x hx hl => (k.2 x hx (Nat.lt_of_lt_of_le hl h.1)).trans (h.2 x hx hl)⟩
theorem Above.of_upd {lo g : Nat} {w W : World} (h : Upd (fun x => x = g) w W) (hg : g < lo) : Above lo w W := ⟨h.size, fun x hx hl => h.block x hl (by omega)⟩
def Hears (lo : Nat) (k : Nat) (F : Value) (w0 : World) : Prop := ∃ f cap, F = .func (.func f) #[] cap ∧ Goes Tryz.prog f ∧ ∀ W, Above lo w0 W → TabW W → ∀ g b q n v, StOk b q → Desk W g b q → okM k n.length = true → SL W 1 v n.length (ints n) →
 Calls Tryz.prog f (#[.pointer (some ⟨g, 0, none⟩), v] ++ cap) W (ActIs (actZ k b q n) g W)
def FnAt (w : World) (g : Nat) (f : FuncId) : Prop := g < w.heap.size ∧ w.cell? ⟨g, 0, none⟩ = some (.func (.func f) #[] #[])
theorem FnAt.ext {w w' : World} {g : Nat} {f : FuncId} (h : FnAt w g f) (hx : Ext w w') : FnAt w' g f := ⟨Nat.lt_of_lt_of_le h.1 hx.size, (hx.cell (p := ⟨g, 0, none⟩) h.1).trans h.2⟩
theorem FnAt.above {lo : Nat} {w w' : World} {g : Nat} {f : FuncId} (h : FnAt w g f) (hl : lo ≤ g) (hx : Above lo w w') : FnAt w' g f := by
 refine ⟨Nat.lt_of_lt_of_le h.1 hx.1, ?_⟩
 rw [← h.2]
 unfold World.cell?
 rw [hx.2 g hl h.1]
theorem FnAt.grown {w w' : World} {g b : Nat} {f : FuncId} (h : FnAt w g f) (hg : w.grownBy w' (some b)) (hne : g ≠ b) : FnAt w' g f := by
 refine ⟨Nat.lt_of_lt_of_le h.1 hg.size, ?_⟩
 rw [← h.2]
 unfold World.cell?
 rw [hg.block g h.1 (fun e => by cases e; exact hne rfl)]
theorem hears_set (lo : Nat) (w : World) : Hears lo 0 (.func (.func 32) #[] #[]) w := ⟨_, _, rfl, ⟨_, Tryz.func32, rfl, rfl⟩, fun W _ _ g b q n v hS hD hk hv => set_any g b q n v W hS.1 hS.2.1 hD (by simp [okM, manyZ] at hk; omega) hv⟩
theorem hears_coarse (lo : Nat) (w : World) : Hears lo 1 (.func (.func 33) #[] #[]) w := ⟨_, _, rfl, ⟨_, Tryz.func33, rfl, rfl⟩, fun W _ _ g b q n v hS hD hk hv => coarse_any g b q n v W hS.1 hS.2.1 hD (by simp [okM, manyZ] at hk; omega) hv⟩
theorem hears_show (lo : Nat) (w : World) : Hears lo 2 (.func (.func 34) #[] #[]) w := ⟨_, _, rfl, ⟨_, Tryz.func34, rfl, rfl⟩, fun W _ ht g b q n v hS hD hk hv => show_any g b q v W hS hD ht⟩
theorem hears_tokens (lo : Nat) (w : World) : Hears lo 3 (.func (.func 35) #[] #[]) w := ⟨_, _, rfl, ⟨_, Tryz.func35, rfl, rfl⟩, fun W _ ht g b q n v hS hD hk hv => deskTokens_any g b q v W hS hD ht⟩
theorem hears_size (lo : Nat) (w : World) : Hears lo 8 (.func (.func 45) #[] #[]) w := ⟨_, _, rfl, ⟨_, Tryz.func45, rfl, rfl⟩, fun W _ ht g b q n v hS hD hk hv => sized_any g b q n v W hD (by simp [okM, manyZ] at hk; omega) hv ht⟩
theorem hears_best (lo : Nat) (w : World) : Hears lo 11 (.func (.func 49) #[] #[]) w := ⟨_, _, rfl, ⟨_, Tryz.func49, rfl, rfl⟩, fun W _ ht g b q n v hS hD hk hv => bested_any g b q n v W hD hv ht⟩
theorem hears_by (k : Nat) (f : FuncId) (R : List Int → List Int → List Int × Int) (hf : BlkF f R) (hR : ∀ b q n, actZ k b q n = byZ (R b q) b q) {g lo : Nat} {w : World} (h : FnAt w g f) (hl : lo ≤ g) : Hears lo k (.func (.func 67) #[] #[.pointer (some ⟨g, 0, none⟩)]) w :=
 ⟨_, _, rfl, ⟨_, Tryz.func67, rfl, rfl⟩, fun W hx _ gd b q n v hS hD hk hv => by rw [hR]; exact by1_any f R hf gd g b q v W hS hD (h.above hl hx).1 (h.above hl hx).2⟩
theorem hears_tinted (k : Nat) (f : FuncId) (m : List Int) (hf : TintF f m) (hR : ∀ b q n, actZ k b q n = tintZ m b q n) (h3 : manyZ k = 3) {g lo : Nat} {w : World} (h : FnAt w g f) (hl : lo ≤ g) : Hears lo k (.func (.func 77) #[] #[.pointer (some ⟨g, 0, none⟩)]) w :=
 ⟨_, _, rfl, ⟨_, Tryz.func77, rfl, rfl⟩, fun W hx ht gd b q n v hS hD hk hv => by
  rw [hR]
  have hn : n.length = 3 := by unfold okM at hk; rw [h3] at hk; simp at hk; omega
  exact tinted_any f m hf gd g b q n v W hD hn hv (h.above hl hx).1 (h.above hl hx).2 ht⟩
def CallsG (lo : Nat) (w : World) (G : List UInt8 → Option Value) : Prop := (∀ x, kindZ x = none → G x = none) ∧ ∀ x k, kindZ x = some k → ∃ F, G x = some (.agg #[.int .i64 (manyZ k), F]) ∧ Hears lo k F w
theorem by_fn (f : FuncId) (w : World) : Calls Tryz.prog 36 #[.func (.func f) #[] #[]] w fun e w' => ∃ g, e = .returned (.func (.func 67) #[] #[.pointer (some ⟨g, 0, none⟩)]) ∧ FnAt w' g f ∧ Ext w w' ∧ w.heap.size ≤ g := by
 go_enter Tryz.func36, Tryz.ntmps36
 go_wp2_with fail
 go_ret
 exact ⟨w.heap.size, rfl, ⟨by simp, (Blk.new w _ _).cell 0⟩, (Ext.refl w).alloc _, Nat.le_refl _⟩
theorem tinted_fn (f : FuncId) (w : World) : Calls Tryz.prog 46 #[.func (.func f) #[] #[]] w fun e w' => ∃ g, e = .returned (.func (.func 77) #[] #[.pointer (some ⟨g, 0, none⟩)]) ∧ FnAt w' g f ∧ Ext w w' ∧ w.heap.size ≤ g := by
 go_enter Tryz.func46, Tryz.ntmps46
 go_wp2_with fail
 go_ret
 exact ⟨w.heap.size, rfl, ⟨by simp, (Blk.new w _ _).cell 0⟩, (Ext.refl w).alloc _, Nat.le_refl _⟩
theorem builtC (m : Int) (f : Fn) (cap : Array Value) : Tryz.prog.built 43 [(0, .int .i64 m), (1, .func f #[] cap)] = some #[.int .i64 m, .func f #[] cap] := by kernel_rfl
theorem wl_mkmap {ops : Array Oper} {rest : List Oper} {o : Oper} {a : Act} {w : World} {Q : Exit → Act → World → Prop} (hg : o.guard = none) (t : TypeId) (ho : o.op = .makeMap t none) (dst : Option Tmp) (hdst : o.dst = dst)
 (h : ∀ w1 b, MapS Tryz.prog 9 w1 b 0 (fun _ => none) → Ext w w1 → w.heap.size ≤ b → wpList Tryz.prog ops Q rest (a.put dst (.map (some b))) w1) : wpList Tryz.prog ops Q (o :: rest) a w :=
 wpList_plain hg fun _ hK => by
  unfold Oper.wp execOp
  simp only [ho, Option.map_none, run_makeMap, Sem.run_bind, Result.andThen_ok, Sem.run_pure]
  subst hdst
  exact hK _ _ (h _ _ (MapG.made w) ((Ext.refl w).alloc _) (Nat.le_refl _))
theorem callsG {lo : Nat} {w : World} (F0 F1 F2 F3 F4 F5 F6 F7 F8 F9 F10 F11 : Value) (h0 : Hears lo 0 F0 w) (h1 : Hears lo 1 F1 w) (h2 : Hears lo 2 F2 w) (h3 : Hears lo 3 F3 w) (h4 : Hears lo 4 F4 w) (h5 : Hears lo 5 F5 w) (h6 : Hears lo 6 F6 w) (h7 : Hears lo 7 F7 w) (h8 : Hears lo 8 F8 w) (h9 : Hears lo 9 F9 w) (h10 : Hears lo 10 F10 w) (h11 : Hears lo 11 F11 w) : CallsG lo w (fun j => if j = [98, 101, 115, 116] then some (.agg #[.int .i64 (-1), F11]) else if j = [112, 108, 97, 105, 110] then some (.agg #[.int .i64 3, F10]) else if j = [116, 105, 110, 116] then some (.agg #[.int .i64 3, F9]) else if j = [115, 105, 122, 101] then some (.agg #[.int .i64 1, F8]) else if j = [117, 112] then some (.agg #[.int .i64 0, F7]) else if j = [100, 111, 119, 110] then some (.agg #[.int .i64 0, F6]) else if j = [98, 97, 99, 107] then some (.agg #[.int .i64 0, F5]) else if j = [119, 97, 118, 101] then some (.agg #[.int .i64 0, F4]) else if j = [116, 111, 107, 101, 110, 115] then some (.agg #[.int .i64 0, F3]) else if j = [115, 104, 111, 119] then some (.agg #[.int .i64 0, F2]) else if j = [99, 111, 97, 114, 115, 101] then some (.agg #[.int .i64 1, F1]) else if j = [115, 101, 116] then some (.agg #[.int .i64 2, F0]) else none) := by
 constructor
 ·intro x h
  have n0 : x ≠ [115, 101, 116] := by rintro rfl; simp [kindZ] at h
  have n1 : x ≠ [99, 111, 97, 114, 115, 101] := by rintro rfl; simp [kindZ] at h
  have n2 : x ≠ [115, 104, 111, 119] := by rintro rfl; simp [kindZ] at h
  have n3 : x ≠ [116, 111, 107, 101, 110, 115] := by rintro rfl; simp [kindZ] at h
  have n4 : x ≠ [119, 97, 118, 101] := by rintro rfl; simp [kindZ] at h
  have n5 : x ≠ [98, 97, 99, 107] := by rintro rfl; simp [kindZ] at h
  have n6 : x ≠ [100, 111, 119, 110] := by rintro rfl; simp [kindZ] at h
  have n7 : x ≠ [117, 112] := by rintro rfl; simp [kindZ] at h
  have n8 : x ≠ [115, 105, 122, 101] := by rintro rfl; simp [kindZ] at h
  have n9 : x ≠ [116, 105, 110, 116] := by rintro rfl; simp [kindZ] at h
  have n10 : x ≠ [112, 108, 97, 105, 110] := by rintro rfl; simp [kindZ] at h
  have n11 : x ≠ [98, 101, 115, 116] := by rintro rfl; simp [kindZ] at h
  dsimp only
  rw [if_neg n11, if_neg n10, if_neg n9, if_neg n8, if_neg n7, if_neg n6, if_neg n5, if_neg n4, if_neg n3, if_neg n2, if_neg n1, if_neg n0]
 ·intro x k h
  by_cases e0 : x = [115, 101, 116]
  ·subst e0
   obtain rfl : 0 = k := by simpa [kindZ] using h
   exact ⟨F0, by simp [manyZ], h0⟩
  by_cases e1 : x = [99, 111, 97, 114, 115, 101]
  ·subst e1
   obtain rfl : 1 = k := by simpa [kindZ] using h
   exact ⟨F1, by simp [manyZ], h1⟩
  by_cases e2 : x = [115, 104, 111, 119]
  ·subst e2
   obtain rfl : 2 = k := by simpa [kindZ] using h
   exact ⟨F2, by simp [manyZ], h2⟩
  by_cases e3 : x = [116, 111, 107, 101, 110, 115]
  ·subst e3
   obtain rfl : 3 = k := by simpa [kindZ] using h
   exact ⟨F3, by simp [manyZ], h3⟩
  by_cases e4 : x = [119, 97, 118, 101]
  ·subst e4
   obtain rfl : 4 = k := by simpa [kindZ] using h
   exact ⟨F4, by simp [manyZ], h4⟩
  by_cases e5 : x = [98, 97, 99, 107]
  ·subst e5
   obtain rfl : 5 = k := by simpa [kindZ] using h
   exact ⟨F5, by simp [manyZ], h5⟩
  by_cases e6 : x = [100, 111, 119, 110]
  ·subst e6
   obtain rfl : 6 = k := by simpa [kindZ] using h
   exact ⟨F6, by simp [manyZ], h6⟩
  by_cases e7 : x = [117, 112]
  ·subst e7
   obtain rfl : 7 = k := by simpa [kindZ] using h
   exact ⟨F7, by simp [manyZ], h7⟩
  by_cases e8 : x = [115, 105, 122, 101]
  ·subst e8
   obtain rfl : 8 = k := by simpa [kindZ] using h
   exact ⟨F8, by simp [manyZ], h8⟩
  by_cases e9 : x = [116, 105, 110, 116]
  ·subst e9
   obtain rfl : 9 = k := by simpa [kindZ] using h
   exact ⟨F9, by simp [manyZ], h9⟩
  by_cases e10 : x = [112, 108, 97, 105, 110]
  ·subst e10
   obtain rfl : 10 = k := by simpa [kindZ] using h
   exact ⟨F10, by simp [manyZ], h10⟩
  by_cases e11 : x = [98, 101, 115, 116]
  ·subst e11
   obtain rfl : 11 = k := by simpa [kindZ] using h
   exact ⟨F11, by simp [manyZ], h11⟩
  simp [kindZ, e0, e1, e2, e3, e4, e5, e6, e7, e8, e9, e10, e11] at h
set_option maxRecDepth 20000 in
set_option maxHeartbeats 8000000 in
theorem calls_any (w : World) : Calls Tryz.prog 14 #[] w fun e w' => ∃ mb G, e = .returned (.map (some mb)) ∧ MapS Tryz.prog 9 w' mb 12 G ∧ CallsG w.heap.size w' G ∧ Ext w w' ∧ w.heap.size ≤ mb := by
 have HBY := hid_ by_fn
 have HTI := hid_ tinted_fn
 go_enter Tryz.func14, Tryz.ntmps14
 go_wp2_with (first
  | ((with_reducible apply gS 1); refine wl_mkmap rfl 45 rfl (some 1) rfl ?_; intro w0 mb hm0 hx0 hmb)
  | ((with_reducible apply gS 2); refine wpList_build_abs rfl 43 _ rfl #[.int .i64 2, .func (.func 32) #[] #[]] (builtC 2 (.func 32) #[]) ?_)
  | ((with_reducible show wpList _ _ _ (⟨none, .insert _ (.tmp 1) _ (.tmp 2), _, _, _, _⟩ :: _) _ _); refine wpList_ins_s (by rfl) (.tmp 1) _ (.tmp 2) 45 43 rfl Tryz.underlying9 Tryz.underlying45 rfl hm0 (by omega) [115, 101, 116] (by simp) rfl (.agg #[.int .i64 2, .func (.func 32) #[] #[]]) rfl ?_; intro u2 hn2 hu2; have hz2 := hx0.grown hu2 hmb)
  | ((with_reducible apply gS 3); refine wpList_build_abs rfl 43 _ rfl #[.int .i64 1, .func (.func 33) #[] #[]] (builtC 1 (.func 33) #[]) ?_)
  | ((with_reducible show wpList _ _ _ (⟨none, .insert _ (.tmp 1) _ (.tmp 3), _, _, _, _⟩ :: _) _ _); refine wpList_ins_s (by rfl) (.tmp 1) _ (.tmp 3) 45 43 rfl Tryz.underlying9 Tryz.underlying45 rfl hn2 (by omega) [99, 111, 97, 114, 115, 101] (by simp) rfl (.agg #[.int .i64 1, .func (.func 33) #[] #[]]) rfl ?_; intro u3 hn3 hu3; have hz3 := hz2.grown hu3 hmb)
  | ((with_reducible apply gS 4); refine wpList_build_abs rfl 43 _ rfl #[.int .i64 0, .func (.func 34) #[] #[]] (builtC 0 (.func 34) #[]) ?_)
  | ((with_reducible show wpList _ _ _ (⟨none, .insert _ (.tmp 1) _ (.tmp 4), _, _, _, _⟩ :: _) _ _); refine wpList_ins_s (by rfl) (.tmp 1) _ (.tmp 4) 45 43 rfl Tryz.underlying9 Tryz.underlying45 rfl hn3 (by omega) [115, 104, 111, 119] (by simp) rfl (.agg #[.int .i64 0, .func (.func 34) #[] #[]]) rfl ?_; intro u4 hn4 hu4; have hz4 := hz3.grown hu4 hmb)
  | ((with_reducible apply gS 5); refine wpList_build_abs rfl 43 _ rfl #[.int .i64 0, .func (.func 35) #[] #[]] (builtC 0 (.func 35) #[]) ?_)
  | ((with_reducible show wpList _ _ _ (⟨none, .insert _ (.tmp 1) _ (.tmp 5), _, _, _, _⟩ :: _) _ _); refine wpList_ins_s (by rfl) (.tmp 1) _ (.tmp 5) 45 43 rfl Tryz.underlying9 Tryz.underlying45 rfl hn4 (by omega) [116, 111, 107, 101, 110, 115] (by simp) rfl (.agg #[.int .i64 0, .func (.func 35) #[] #[]]) rfl ?_; intro u5 hn5 hu5; have hz5 := hz4.grown hu5 hmb)
  | (go_at_call 36; (with_reducible refine (HBY.out 37 _).mono ?_); rintro e v6 ⟨g6, rfl, hc6, hy6, hg6⟩; have hx6 := hz5.trans hy6; have hm6 := hn5.ext hy6; have hl6 := hn5.lt; have hs6 := hz5.size)
  | ((with_reducible apply gS 7); refine wpList_build_abs rfl 43 _ rfl #[.int .i64 0, .func (.func 67) #[] #[.pointer (some ⟨g6, 0, none⟩)]] (builtC 0 (.func 67) #[.pointer (some ⟨g6, 0, none⟩)]) ?_)
  | ((with_reducible show wpList _ _ _ (⟨none, .insert _ (.tmp 1) _ (.tmp 7), _, _, _, _⟩ :: _) _ _); refine wpList_ins_s (by rfl) (.tmp 1) _ (.tmp 7) 45 43 rfl Tryz.underlying9 Tryz.underlying45 rfl hm6 (by omega) [119, 97, 118, 101] (by simp) rfl (.agg #[.int .i64 0, .func (.func 67) #[] #[.pointer (some ⟨g6, 0, none⟩)]]) rfl ?_; intro u7 hn7 hu7; have hz7 := hx6.grown hu7 hmb; have hne6 : g6 ≠ mb := (by omega); have hc6 := hc6.grown hu7 (by first | omega | exact hne6))
  | (go_at_call 36; (with_reducible refine (HBY.out 39 _).mono ?_); rintro e v8 ⟨g8, rfl, hc8, hy8, hg8⟩; have hx8 := hz7.trans hy8; have hm8 := hn7.ext hy8; have hl8 := hn7.lt; have hs8 := hz7.size; have hc6 := hc6.ext hy8)
  | ((with_reducible apply gS 9); refine wpList_build_abs rfl 43 _ rfl #[.int .i64 0, .func (.func 67) #[] #[.pointer (some ⟨g8, 0, none⟩)]] (builtC 0 (.func 67) #[.pointer (some ⟨g8, 0, none⟩)]) ?_)
  | ((with_reducible show wpList _ _ _ (⟨none, .insert _ (.tmp 1) _ (.tmp 9), _, _, _, _⟩ :: _) _ _); refine wpList_ins_s (by rfl) (.tmp 1) _ (.tmp 9) 45 43 rfl Tryz.underlying9 Tryz.underlying45 rfl hm8 (by omega) [98, 97, 99, 107] (by simp) rfl (.agg #[.int .i64 0, .func (.func 67) #[] #[.pointer (some ⟨g8, 0, none⟩)]]) rfl ?_; intro u9 hn9 hu9; have hz9 := hx8.grown hu9 hmb; have hne8 : g8 ≠ mb := (by omega); have hc6 := hc6.grown hu9 (by first | omega | exact hne6); have hc8 := hc8.grown hu9 (by first | omega | exact hne8))
  | (go_at_call 36; (with_reducible refine (HBY.out 41 _).mono ?_); rintro e v10 ⟨g10, rfl, hc10, hy10, hg10⟩; have hx10 := hz9.trans hy10; have hm10 := hn9.ext hy10; have hl10 := hn9.lt; have hs10 := hz9.size; have hc6 := hc6.ext hy10; have hc8 := hc8.ext hy10)
  | ((with_reducible apply gS 11); refine wpList_build_abs rfl 43 _ rfl #[.int .i64 0, .func (.func 67) #[] #[.pointer (some ⟨g10, 0, none⟩)]] (builtC 0 (.func 67) #[.pointer (some ⟨g10, 0, none⟩)]) ?_)
  | ((with_reducible show wpList _ _ _ (⟨none, .insert _ (.tmp 1) _ (.tmp 11), _, _, _, _⟩ :: _) _ _); refine wpList_ins_s (by rfl) (.tmp 1) _ (.tmp 11) 45 43 rfl Tryz.underlying9 Tryz.underlying45 rfl hm10 (by omega) [100, 111, 119, 110] (by simp) rfl (.agg #[.int .i64 0, .func (.func 67) #[] #[.pointer (some ⟨g10, 0, none⟩)]]) rfl ?_; intro u11 hn11 hu11; have hz11 := hx10.grown hu11 hmb; have hne10 : g10 ≠ mb := (by omega); have hc6 := hc6.grown hu11 (by first | omega | exact hne6); have hc8 := hc8.grown hu11 (by first | omega | exact hne8); have hc10 := hc10.grown hu11 (by first | omega | exact hne10))
  | (go_at_call 36; (with_reducible refine (HBY.out 43 _).mono ?_); rintro e v12 ⟨g12, rfl, hc12, hy12, hg12⟩; have hx12 := hz11.trans hy12; have hm12 := hn11.ext hy12; have hl12 := hn11.lt; have hs12 := hz11.size; have hc6 := hc6.ext hy12; have hc8 := hc8.ext hy12; have hc10 := hc10.ext hy12)
  | ((with_reducible apply gS 13); refine wpList_build_abs rfl 43 _ rfl #[.int .i64 0, .func (.func 67) #[] #[.pointer (some ⟨g12, 0, none⟩)]] (builtC 0 (.func 67) #[.pointer (some ⟨g12, 0, none⟩)]) ?_)
  | ((with_reducible show wpList _ _ _ (⟨none, .insert _ (.tmp 1) _ (.tmp 13), _, _, _, _⟩ :: _) _ _); refine wpList_ins_s (by rfl) (.tmp 1) _ (.tmp 13) 45 43 rfl Tryz.underlying9 Tryz.underlying45 rfl hm12 (by omega) [117, 112] (by simp) rfl (.agg #[.int .i64 0, .func (.func 67) #[] #[.pointer (some ⟨g12, 0, none⟩)]]) rfl ?_; intro u13 hn13 hu13; have hz13 := hx12.grown hu13 hmb; have hne12 : g12 ≠ mb := (by omega); have hc6 := hc6.grown hu13 (by first | omega | exact hne6); have hc8 := hc8.grown hu13 (by first | omega | exact hne8); have hc10 := hc10.grown hu13 (by first | omega | exact hne10); have hc12 := hc12.grown hu13 (by first | omega | exact hne12))
  | ((with_reducible apply gS 14); refine wpList_build_abs rfl 43 _ rfl #[.int .i64 1, .func (.func 45) #[] #[]] (builtC 1 (.func 45) #[]) ?_)
  | ((with_reducible show wpList _ _ _ (⟨none, .insert _ (.tmp 1) _ (.tmp 14), _, _, _, _⟩ :: _) _ _); refine wpList_ins_s (by rfl) (.tmp 1) _ (.tmp 14) 45 43 rfl Tryz.underlying9 Tryz.underlying45 rfl hn13 (by omega) [115, 105, 122, 101] (by simp) rfl (.agg #[.int .i64 1, .func (.func 45) #[] #[]]) rfl ?_; intro u14 hn14 hu14; have hz14 := hz13.grown hu14 hmb; have hc6 := hc6.grown hu14 (by first | omega | exact hne6); have hc8 := hc8.grown hu14 (by first | omega | exact hne8); have hc10 := hc10.grown hu14 (by first | omega | exact hne10); have hc12 := hc12.grown hu14 (by first | omega | exact hne12))
  | (go_at_call 46; (with_reducible refine (HTI.out 47 _).mono ?_); rintro e v15 ⟨g15, rfl, hc15, hy15, hg15⟩; have hx15 := hz14.trans hy15; have hm15 := hn14.ext hy15; have hl15 := hn14.lt; have hs15 := hz14.size; have hc6 := hc6.ext hy15; have hc8 := hc8.ext hy15; have hc10 := hc10.ext hy15; have hc12 := hc12.ext hy15)
  | ((with_reducible apply gS 16); refine wpList_build_abs rfl 43 _ rfl #[.int .i64 3, .func (.func 77) #[] #[.pointer (some ⟨g15, 0, none⟩)]] (builtC 3 (.func 77) #[.pointer (some ⟨g15, 0, none⟩)]) ?_)
  | ((with_reducible show wpList _ _ _ (⟨none, .insert _ (.tmp 1) _ (.tmp 16), _, _, _, _⟩ :: _) _ _); refine wpList_ins_s (by rfl) (.tmp 1) _ (.tmp 16) 45 43 rfl Tryz.underlying9 Tryz.underlying45 rfl hm15 (by omega) [116, 105, 110, 116] (by simp) rfl (.agg #[.int .i64 3, .func (.func 77) #[] #[.pointer (some ⟨g15, 0, none⟩)]]) rfl ?_; intro u16 hn16 hu16; have hz16 := hx15.grown hu16 hmb; have hne15 : g15 ≠ mb := (by omega); have hc6 := hc6.grown hu16 (by first | omega | exact hne6); have hc8 := hc8.grown hu16 (by first | omega | exact hne8); have hc10 := hc10.grown hu16 (by first | omega | exact hne10); have hc12 := hc12.grown hu16 (by first | omega | exact hne12); have hc15 := hc15.grown hu16 (by first | omega | exact hne15))
  | (go_at_call 46; (with_reducible refine (HTI.out 48 _).mono ?_); rintro e v17 ⟨g17, rfl, hc17, hy17, hg17⟩; have hx17 := hz16.trans hy17; have hm17 := hn16.ext hy17; have hl17 := hn16.lt; have hs17 := hz16.size; have hc6 := hc6.ext hy17; have hc8 := hc8.ext hy17; have hc10 := hc10.ext hy17; have hc12 := hc12.ext hy17; have hc15 := hc15.ext hy17)
  | ((with_reducible apply gS 18); refine wpList_build_abs rfl 43 _ rfl #[.int .i64 3, .func (.func 77) #[] #[.pointer (some ⟨g17, 0, none⟩)]] (builtC 3 (.func 77) #[.pointer (some ⟨g17, 0, none⟩)]) ?_)
  | ((with_reducible show wpList _ _ _ (⟨none, .insert _ (.tmp 1) _ (.tmp 18), _, _, _, _⟩ :: _) _ _); refine wpList_ins_s (by rfl) (.tmp 1) _ (.tmp 18) 45 43 rfl Tryz.underlying9 Tryz.underlying45 rfl hm17 (by omega) [112, 108, 97, 105, 110] (by simp) rfl (.agg #[.int .i64 3, .func (.func 77) #[] #[.pointer (some ⟨g17, 0, none⟩)]]) rfl ?_; intro u18 hn18 hu18; have hz18 := hx17.grown hu18 hmb; have hne17 : g17 ≠ mb := (by omega); have hc6 := hc6.grown hu18 (by first | omega | exact hne6); have hc8 := hc8.grown hu18 (by first | omega | exact hne8); have hc10 := hc10.grown hu18 (by first | omega | exact hne10); have hc12 := hc12.grown hu18 (by first | omega | exact hne12); have hc15 := hc15.grown hu18 (by first | omega | exact hne15); have hc17 := hc17.grown hu18 (by first | omega | exact hne17))
  | ((with_reducible apply gS 19); refine wpList_build_abs rfl 43 _ rfl #[.int .i64 (-1), .func (.func 49) #[] #[]] (builtC (-1) (.func 49) #[]) ?_)
  | ((with_reducible show wpList _ _ _ (⟨none, .insert _ (.tmp 1) _ (.tmp 19), _, _, _, _⟩ :: _) _ _); refine wpList_ins_s (by rfl) (.tmp 1) _ (.tmp 19) 45 43 rfl Tryz.underlying9 Tryz.underlying45 rfl hn18 (by omega) [98, 101, 115, 116] (by simp) rfl (.agg #[.int .i64 (-1), .func (.func 49) #[] #[]]) rfl ?_; intro u19 hn19 hu19; have hz19 := hz18.grown hu19 hmb; have hc6 := hc6.grown hu19 (by first | omega | exact hne6); have hc8 := hc8.grown hu19 (by first | omega | exact hne8); have hc10 := hc10.grown hu19 (by first | omega | exact hne10); have hc12 := hc12.grown hu19 (by first | omega | exact hne12); have hc15 := hc15.grown hu19 (by first | omega | exact hne15); have hc17 := hc17.grown hu19 (by first | omega | exact hne17)))
 go_ret
 have hb6 : w.heap.size ≤ g6 := by omega
 have hb8 : w.heap.size ≤ g8 := by omega
 have hb10 : w.heap.size ≤ g10 := by omega
 have hb12 : w.heap.size ≤ g12 := by omega
 have hb15 : w.heap.size ≤ g15 := by omega
 have hb17 : w.heap.size ≤ g17 := by omega
 refine ⟨mb, _, rfl, hn19, ?_, hz19, hmb⟩
 exact callsG _ _ _ _ _ _ _ _ _ _ _ _ (hears_set _ _) (hears_coarse _ _) (hears_show _ _) (hears_tokens _ _) (hears_by 4 _ _ blkF_wave (fun _ _ _ => rfl) hc6 hb6) (hears_by 5 _ _ blkF_back (fun _ _ _ => rfl) hc8 hb8) (hears_by 6 _ _ blkF_down (fun _ _ _ => rfl) hc10 hb10) (hears_by 7 _ _ blkF_up (fun _ _ _ => rfl) hc12 hb12) (hears_size _ _) (hears_tinted 9 _ _ tintF_to (fun _ _ _ => rfl) rfl hc15 hb15) (hears_tinted 10 _ _ tintF_from (fun _ _ _ => rfl) rfl hc17 hb17) (hears_best _ _)
theorem blank_any (x : Nat) (hx : x ≤ 1114111) (w : World) : Calls Tryz.prog 13 #[.int .i32 (x : Int)] w fun e w' => e = .returned (.bool (p32 x)) ∧ w = w' := by
 have HP : Hid (((x : Int) == 32) = p32 x) := hid_ (by
  unfold p32
  rw [Bool.eq_iff_iff]
  simp
  omega)
 go_enter Tryz.func13, Tryz.ntmps13
 go_wp2_with fail
 go_ret
 exact ⟨congrArg (fun b => Ending.returned (.bool b)) HP.out, rfl⟩
theorem fields_any (s : ByteArray) (hs : s.size ≤ 300) (w : World) : Calls Tryz.prog 12 #[.string s, .func (.func 13) #[] #[]] w fun e w' => ∃ (A n : Nat) (L : List ByteArray), e = .returned (.slice (some ⟨A, 0, none⟩) n n) ∧ L.length = n ∧ w.heap.size ≤ A ∧ w'.ownsRow w.heap.size 9 1 (.slice (some ⟨A, 0, none⟩) n n) n (L.map Value.string) ∧ L.map (·.data.toList) = wGo [] s.data.toList ∧ Ext w w' := by
 refine (Tryz.strings_FieldsFunc_grows 13 #[] (enters_of Tryz.func13 (by kernel_rfl) rfl) p32 s w (by omega) ?_).mono ?_
 ·intro W x hx hb
  refine (blank_any x hx W).mono ?_
  rintro e w' ⟨rfl, rfl⟩
  exact ⟨rfl, Below.refl _ _⟩
 ·rintro e w' ⟨A, rfl, h1, h2, h3⟩
  exact ⟨A, _, Lib.goFieldsP p32 s, rfl, rfl, h1, h2, fields_words s, h3⟩
def ErrW (tp1 tp2 : TypeId) (p1 p2 : Value) (w : World) : Prop := ∀ W, Ext w W → W.var? Tryz.prog "strconv.ErrSyntax" = some #[.iface tp1 p1] ∧ W.var? Tryz.prog "strconv.ErrRange" = some #[.iface tp2 p2]
def EnvW (w : World) : Prop := TabW w ∧ ∃ tp1 tp2 p1 p2, ErrW tp1 tp2 p1 p2 w
theorem EnvW.ext {w w' : World} (h : EnvW w) (hx : Ext w w') : EnvW w' := by
 obtain ⟨h1, tp1, tp2, p1, p2, h2⟩ := h
 exact ⟨h1.ext hx, tp1, tp2, p1, p2, fun W hW => h2 W (hx.trans hW)⟩
theorem EnvW.number {w : World} (h : EnvW w) (s : ByteArray) (hs : s.size ≤ 300) (W : World) (hx : Ext w W) : Calls Tryz.prog 15 #[.string s] W fun e w' => ∃ n is, e = .returned (.tuple #[.int .i64 n, .bool is]) ∧ (if is = true then some n else none) = numP s.data.toList ∧ Ext W w' := by
 obtain ⟨h1, tp1, tp2, p1, p2, h2⟩ := h
 exact number_any s hs tp1 tp2 p1 p2 W (fun W' h => h1 W' (hx.trans h)) (h2 W hx).1 (h2 W hx).2
theorem Hears.above {lo k : Nat} {F : Value} {w w' : World} (h : Hears lo k F w) (hx : Above lo w w') : Hears lo k F w' := by
 obtain ⟨f, cap, h1, h2, h3⟩ := h
 exact ⟨f, cap, h1, h2, fun W hW => h3 W (hx.trans hW)⟩
theorem ActIs.from_ {z : Ans} {g : Nat} {w w1 w2 : World} {e : Ending} (h : ActIs z g w1 e w2) (hx : Ext w w1) : ActIs z g w e w2 := by
 obtain ⟨s, h1, h2, h3, h4⟩ := h
 exact ⟨s, h1, h2, h3, (Upd.of_ext (S := fun x => x = g) hx).trans h4 (fun x h => .inl h)⟩
theorem wGo_mem (l : List UInt8) : ∀ (cur : List UInt8), ∀ x ∈ wGo cur l, x.length ≤ cur.length + l.length := by
 induction l with
 | nil =>
   intro cur x hx
   unfold wGo at hx
   split at hx
   ·cases hx
   ·simp at hx; subst hx; omega
 | cons b r ih =>
   intro cur x hx
   unfold wGo at hx
   simp only [List.length_cons]
   split at hx
   ·split at hx
    ·have := ih [] x hx; simp at this; omega
    ·rcases List.mem_cons.1 hx with rfl | h
     ·omega
     ·have := ih [] x h; simp at this; omega
   ·have := ih _ x hx; simp at this; omega
theorem wGo_many (l : List UInt8) : ∀ (cur : List UInt8), (wGo cur l).length ≤ l.length + 1 := by
 induction l with
 | nil => intro cur; unfold wGo; split <;> simp
 | cons b r ih =>
   intro cur
   unfold wGo
   simp only [List.length_cons]
   split
   ·split
    ·have := ih []; omega
    ·have := ih []; simp only [List.length_cons]; omega
   ·have := ih (cur ++ [b]); omega
theorem SL.tail {w : World} {A : Option Addr} {n c : Nat} {xs : List Value} (hs : SL w 1 (.slice A n c) n xs) (hn : 1 ≤ n) : SL w 1 (.slice (if c = 1 then A else A.map (·.add 1)) (n - 1) (c - 1)) (n - 1) (xs.drop 1) := by
 obtain ⟨A', c', e, h1, h2, h3, h4⟩ := hs
 injection e with e1 e2 e3
 subst e1 e3
 refine ⟨_, _, rfl, by omega, by omega, by simp; omega, fun h0 => ?_⟩
 obtain ⟨ad, rfl, hb, hc⟩ := h4 (by omega)
 rw [if_neg (by omega)]
 refine ⟨ad.add 1, rfl, by rw [block_of_add]; exact hb, fun j u hu => ?_⟩
 rw [add_of_add]
 refine hc _ _ ?_
 rwa [List.getElem?_drop] at hu
theorem run_sliceT (A : Option Addr) (n c : Nat) (hh : 1 ≤ n) (hc : n ≤ c) (w : World) :
 (Instr.slice 22 (.slice A n c) (some (.int .i64 1)) none none).run Tryz.prog w = .ok (.slice (if c = 1 then A else A.map (·.add 1)) (n - 1) (c - 1)) w := by
 have e1 : ((1 : Int) ≤ (n : Int)) := by omega
 have e2 : ((n : Int) ≤ (c : Int)) := by omega
 have e3 : 1 ≤ c := by omega
 go_simp
theorem ex_sliceT {o : Oper} {a : Act} {x lo : Operand} (ho : o.op = .slice 22 x (some lo) none none) {A : Option Addr} {n c : Nat} (hx : a.eval x = .slice A n c) (h1 : a.eval lo = .int .i64 1) (hh : 1 ≤ n) (hc : n ≤ c) (w : World) :
 (execOp a.eval o).run Tryz.prog w = .ok (.value (.slice (if c = 1 then A else A.map (·.add 1)) (n - 1) (c - 1))) w := by
 simp [execOp, ho, hx, h1, Instr.sliceAt, Sem.run_bind, run_underlying Tryz.underlying22, run_sliceT A n c hh hc w]
theorem ex_loadS1 {o : Oper} {a : Act} {x : Operand} (ho : o.op = .load 9 x) {p : Addr} (hx : a.eval x = .pointer (some p)) {s : ByteArray} {w : World} (h : w.cell? p = some (.string s)) : (execOp a.eval o).run Tryz.prog w = .ok (.value (.string s)) w := by
 have hr : (loadVar 9 p).run Tryz.prog w = .ok (.string s) w := by
  simp [loadVar, isAgg, Sem.run_bind, run_underlying Tryz.underlying9, run_load, h]
 simp [execOp, ho, hx, Instr.loadAt, Instr.sureAddr, Sem.run_bind, hr]
theorem ex_loadFc {o : Oper} {a : Act} {x : Operand} {ty : TypeId} {d : TypeDesc} (hu : Tryz.prog.underlying ty = some d) (hd : (match d with | .struct _ | .array _ _ => true | _ => false) = false) (ho : o.op = .load ty x) {p : Addr} (hx : a.eval x = .pointer (some p)) {f : FuncId} {cap : Array Value} {w : World} (h : w.cell? p = some (.func (.func f) #[] cap)) : (execOp a.eval o).run Tryz.prog w = .ok (.value (.func (.func f) #[] cap)) w := by
 have hr : (loadVar ty p).run Tryz.prog w = .ok (.func (.func f) #[] cap) w := by
  cases d <;> first | (simp at hd; done) | simp [loadVar, isAgg, Sem.run_bind, run_underlying hu, run_load, h]
 simp [execOp, ho, hx, Instr.loadAt, Instr.sureAddr, Sem.run_bind, hr]
theorem sizeCall : (Tryz.prog.info? 43).map (·.size) = some 2 := by kernel_rfl
theorem zeroCall : (Tryz.prog.info? 43).bind (·.zero) = some (.agg #[.int .i64 0, .nilFunc]) := by kernel_rfl
theorem zeroCallV (w : World) : (zeroValue 43).run Tryz.prog w = .ok (.agg #[.int .i64 0, .nilFunc]) w := by
 have h := zeroCall
 unfold zeroValue typeInfo
 cases hi : Tryz.prog.info? 43 with
 | none => simp [hi] at h
 | some i =>
   rw [hi] at h
   have h' : i.zero = some (.agg #[.int .i64 0, .nilFunc]) := h
   simp [Sem.run_bind, hi, h']
theorem call_one {m : Int} {F : Value} (h : F.oneCell' = true) : (#[Value.int .i64 m, F] : Array Value).all (·.oneCell') = true := by
 rw [Array.all_eq_true_iff_forall_mem]
 intro u hu
 simp only [List.mem_toArray, List.mem_cons, List.not_mem_nil, or_false] at hu
 rcases hu with rfl | rfl
 ·rfl
 ·exact h
theorem CallsG.at_ {lo : Nat} {w : World} {G : List UInt8 → Option Value} (h : CallsG lo w G) (x : List UInt8) : ∃ m F, (G x).getD (.agg #[.int .i64 0, .nilFunc]) = .agg #[.int .i64 m, F] ∧ (G x).isSome = (kindZ x).isSome ∧ F.oneCell' = true ∧ ∀ k, kindZ x = some k → m = manyZ k ∧ Hears lo k F w := by
 cases hk : kindZ x with
 | none => exact ⟨0, .nilFunc, by rw [h.1 x hk]; rfl, by rw [h.1 x hk]; rfl, rfl, fun k h => by cases h⟩
 | some k =>
   obtain ⟨F, hF, hh⟩ := h.2 x k hk
   refine ⟨manyZ k, F, by rw [hF]; rfl, by rw [hF]; rfl, ?_, fun k' h' => ?_⟩
   ·obtain ⟨f, cap, rfl, -⟩ := hh; rfl
   ·injection h' with h'; subst h'; exact ⟨rfl, hh⟩
theorem results_mix {P : Program} {w : World} {fn : Func} {p q u v : Tmp} {ty : TypeId} (h : fn.results = #[.tmp p, .cell u ty, .cell v ty, .tmp q]) (tmps : Array Value) {a b : Value} (g1 g2 : Nat) (h1 : tmps.getD u undef = .pointer (some ⟨g1, 0, none⟩)) (h2 : tmps.getD v undef = .pointer (some ⟨g2, 0, none⟩))
 (e1 : (loadVar ty ⟨g1, 0, none⟩).run P w = .ok a w) (e2 : (loadVar ty ⟨g2, 0, none⟩).run P w = .ok b w) : (results fn tmps).run P w = .ok (.tuple #[tmps.getD p undef, a, b, tmps.getD q undef]) w := by
 have h1' : tmps[u]?.getD undef = .pointer (some ⟨g1, 0, none⟩) := by simpa using h1
 have h2' : tmps[v]?.getD undef = .pointer (some ⟨g2, 0, none⟩) := by simpa using h2
 simp only [results, h]
 simp [Sem.run_bind, Result.andThen, h1', h2', asAddr, e1, e2]
theorem ret_mix {P : Program} {ac : Act} {w : World} {fn : Func} {R : Ending → World → Prop} {p q u v : Tmp} {ty : TypeId} (h : fn.results = #[.tmp p, .cell u ty, .cell v ty, .tmp q]) (hdf : ac.defers = []) (g1 g2 : Nat) {t1 t2 : TypeId} {c1 c2 : Array Value}
 (h1 : ac.tmps.getD u undef = .pointer (some ⟨g1, 0, none⟩)) (h2 : ac.tmps.getD v undef = .pointer (some ⟨g2, 0, none⟩)) (hB1 : Blk w g1 t1 c1) (hB2 : Blk w g2 t2 c2) (d : TypeDesc) (hu : P.underlying ty = some d) (hd : (match d with | .struct _ | .array _ _ => true | _ => false) = true)
 (n : Nat) (hs : (P.info? ty).map (·.size) = some n) (hn1 : c1.size = n) (hn2 : c2.size = n) (hR : R (.returned (.tuple #[ac.tmps.getD p undef, .agg c1, .agg c2, ac.tmps.getD q undef])) w) : bodyPost P fn R .ret ac w := by
 refine bodyPost_ret ?_ hdf hR
 exact results_mix h _ g1 g2 h1 h2 (run_loadVar_row (P := P) w g1 t1 ty c1 (0, 0) d hB1 hu hd (by rw [hn1]; exact hs)) (run_loadVar_row (P := P) w g2 t2 ty c2 (0, 0) d hB2 hu hd (by rw [hn2]; exact hs))
def RLineIs (z : Ans) (w : World) (e : Ending) (w' : World) : Prop :=
 ∃ s : List UInt8, e = .returned (.tuple #[.string ⟨s.toArray⟩, .agg (bv z.b), .agg (bv z.q), .int .i64 z.e]) ∧ (z.e = 0 → s = z.s) ∧ Ext w w'
theorem zer64 : (Value.agg (bv zeros64)).cells.size = 64 := by rw [show (Value.agg (bv zeros64)).cells = bv zeros64 from rfl, bv_size]; rfl
theorem ex_loadBk {P : Program} {o : Oper} {a : Act} {ty : TypeId} {x : Operand} (ho : o.op = .load ty x) {g : Nat} (hx : a.eval x = .pointer (some ⟨g, 0, none⟩)) {w : World} {t : TypeId} {cs : Array Value} (hB : Blk w g t cs) (d : TypeDesc)
 (hu : P.underlying ty = some d) (hd : (match d with | .struct _ | .array _ _ => true | _ => false) = true) (n : Nat) (hs : (P.info? ty).map (·.size) = some n) (hn : cs.size = n) : (execOp a.eval o).run P w = .ok (.value (.agg cs)) w := by
 unfold execOp
 simp only [ho, hx, Instr.loadAt, Instr.sureAddr, Sem.run_bind, Sem.run_pure, Result.andThen_ok, run_loadVar_row w g t ty cs (0, 0) d hB hu hd (by rw [hn]; exact hs)]
theorem goesBad : Goes Tryz.prog 18 := ⟨_, Tryz.func18, rfl, rfl⟩
set_option maxHeartbeats 2000000 in

theorem bad_any (e : Int) (g3 g4 : Nat) (cb cq : Array Value) (w : World) (h3 : Blk w g3 30 cb) (h4 : Blk w g4 30 cq) (hb : cb.size = 64) (hq : cq.size = 64) (hob : cb.all (·.oneCell') = true) (hoq : cq.all (·.oneCell') = true) :
 Calls Tryz.prog 18 #[.int .i64 e, .pointer (some ⟨g3, 0, none⟩), .pointer (some ⟨g4, 0, none⟩)] w fun en w' => en = .returned (.tuple #[.string ⟨#[]⟩, .agg cb, .agg cq, .int .i64 e]) ∧ Ext w w' := by
 have HZ := zero48
 have hz := hid_ zer64
 generalize bv zeros64 = cz at *
 go_enter Tryz.func18, Tryz.ntmps18
 go_upto_region 1 with (first
  | ((with_reducible apply gS 5); refine wAlo' rfl (some 5) rfl 30 rfl _ HZ ?_; intro w1 g5 hb5 hx1 hg5)
  | ((with_reducible apply gS 6); refine wAlo' rfl (some 6) rfl 30 rfl _ HZ ?_; intro w2 g6 hb6 hx2 hg6; have hb52 := hb5.ext hx2; have hx02 := hx1.trans hx2; have h32 := h3.ext hx02; have h42 := h4.ext hx02))
 have hl3 := h3.lt
 have hl4 := h4.lt
 have hl5 := hb5.lt
 try simp only [Act.put, sA, sB, sC]
 have hI : Blk w2.drew g3 30 cb ∧ Blk w2.drew g4 30 cq := ⟨h32, h42⟩
 refine wp_region_oi (fun W => Blk W g3 30 cb ∧ Blk W g4 30 cq) (by kernel_rfl) ?_
 refine oi_fix (k := 0) (by kernel_rfl) rfl (by rfl) (.agg cb) (fun W hW => ex_loadBk rfl rfl hW.1 _ Tryz.underlying30 rfl 64 size48 hb) hI ?_
 simp only [Act.put, sA, sB, sC]
 refine oi_fix (k := 1) (by kernel_rfl) rfl (by rfl) (.agg cq) (fun W hW => ex_loadBk rfl rfl hW.2 _ Tryz.underlying30 rfl 64 size48 hq) hI ?_
 simp only [Act.put, sA, sB, sC]
 refine oi_run (k := 2) (by kernel_rfl) rfl (by rfl) (.int .i64 e) (ex_move rfl rfl) hI ?_
 simp only [Act.put, sA, sB, sC]
 refine oi_run (k := 3) (by kernel_rfl) rfl (by rfl) (.string ⟨#[]⟩) (ex_assign rfl rfl) hI ?_
 simp only [Act.put, sA, sB, sC]
 have hb57 : Blk w2.drew g5 30 cz := hb52
 have hb67 : Blk w2.drew g6 30 cz := hb6
 refine oi_loud (k := 4) (by kernel_rfl) rfl ?_
 refine wStB rfl 30 (.tmp 5) (.tmp 8) rfl g5 cb rfl rfl hb57 64 size48 hb hz.out hob ?_
 intro w3 hb3 hg3
 have hu3 : Upd (fun x => x = g5) w2.drew w3 := (Upd.refl (fun x => x = g5) w2.drew).grown hg3 (fun x hx => .inl (by cases hx; rfl))
 have hI3 : Blk w3 g3 30 cb ∧ Blk w3 g4 30 cq := ⟨hu3.blk hI.1 (by omega), hu3.blk hI.2 (by omega)⟩
 have hb63 := hu3.blk hb67 (by omega)
 refine oi_end ⟨hI3, ?_⟩
 simp only [Act.put, sA, sB, sC]
 refine oi_loud (k := 5) (by kernel_rfl) rfl ?_
 refine wStB rfl 30 (.tmp 6) (.tmp 9) rfl g6 cq rfl rfl hb63 64 size48 hq hz.out hoq ?_
 intro w4 hb4 hg4
 have hu4 : Upd (fun x => x = g6) w3 w4 := (Upd.refl (fun x => x = g6) w3).grown hg4 (fun x hx => .inl (by cases hx; rfl))
 have hI4 : Blk w4 g3 30 cb ∧ Blk w4 g4 30 cq := ⟨hu4.blk hI3.1 (by omega), hu4.blk hI3.2 (by omega)⟩
 have hb54 := hu4.blk hb3 (by omega)
 refine oi_end ⟨hI4, ?_⟩
 simp only [Act.put, sA, sB, sC]
 refine oi_run (k := 6) (by kernel_rfl) rfl (by rfl) (.int .i64 e) (ex_assign rfl rfl) hI4 ?_
 simp only [Act.put, sA, sB, sC]
 refine oi_done (by kernel_rfl) ?_
 go_wp2_with fail
 exact ret_mix rfl rfl g5 g6 rfl rfl hb54 hb4 _ Tryz.underlying30 rfl 64 size48 hb hq ⟨rfl, hu4.ext (hu3.ext hx02.drew (fun x hx => by omega)) (fun x hx => by have := hx1.size; omega)⟩
end Go.Proofs.YtlhggcbpipmjhaaGreatDoor
