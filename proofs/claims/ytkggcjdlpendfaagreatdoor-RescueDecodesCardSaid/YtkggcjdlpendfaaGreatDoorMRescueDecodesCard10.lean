/- Contracts for the law RescueDecodesCard, part 10: what the functions that it reaches answer, for all arguments that the theorems name. -/
import Derived.Test.YtkggcjdlpendfaaGreatDoorMRescueDecodesCard3
import Derived.Test.YtkggcjdlpendfaaGreatDoorMRescueDecodesCard1
import Derived.Test.YtkggcjdlpendfaaGreatDoorMRescueDecodesCard6
import Derived.Test.YtkggcjdlpendfaaGreatDoorMRescueDecodesCard4
import Derived.Test.YtkggcjdlpendfaaGreatDoorMRescueDecodesCard7
import Derived.Test.YtkggcjdlpendfaaGreatDoorMRescueDecodesCard9
import Derived.Test.YtkggcjdlpendfaaGreatDoorMRescueDecodesCard8
import Derived.RangeFuncNested
import Derived.RangeFuncBound
import Derived.RangeFuncCalls
import Derived.RangeFuncLeaves
import Derived.OwnWalkIn
import Derived.TacticsInMore
import Derived.LoopNIn
import Derived.LoopIn
import Derived.Test.YtkggcjdlpendfaaGreatDoorMRescueDecodesCard2
namespace Go.Proofs.YtkggcjdlpendfaaGreatDoor
set_option linter.unusedVariables false
set_option linter.unusedSimpArgs false
open Go.RowKit
def subA (A : Option Addr) (c l : Nat) : Option Addr := if c = l then A else A.map (·.add (l * 64))
theorem SL.subK {w : World} {A : Option Addr} {n c l h : Nat} {xs : List Value} (hs : SL w 64 (.slice A n c) n xs) (hl : l ≤ h) (hh : h ≤ n) :
 SL w 64 (.slice (subA A c l) (h - l) (c - l)) (h - l) ((xs.drop (l * 64)).take ((h - l) * 64)) := by
 obtain ⟨A', c', e, h1, h2, h3, h4⟩ := hs
 injection e with e1 e2 e3
 subst e1 e3
 have h5 : l * 64 + (h - l) * 64 ≤ n * 64 := by rw [← Nat.add_mul]; exact Nat.mul_le_mul_right _ (by omega)
 refine ⟨_, _, rfl, by omega, by omega, by rw [List.length_take, List.length_drop, h3]; omega, fun h0 => ?_⟩
 obtain ⟨ad, rfl, hb, hc⟩ := h4 (by omega)
 unfold subA
 rw [if_neg (by omega)]
 refine ⟨ad.add (l * 64), rfl, by rw [block_of_add]; exact hb, fun j u hu => ?_⟩
 rw [add_of_add]
 refine hc _ _ ?_
 have hj : j < (h - l) * 64 := by have := (List.getElem?_eq_some_iff.1 hu).1; rw [List.length_take] at this; omega
 rwa [List.getElem?_take_of_lt hj, List.getElem?_drop] at hu
theorem run_subK (A : Option Addr) (n c l h : Nat) (hl : l ≤ h) (hh : h ≤ n) (hc : n ≤ c) (w : World) :
 (Instr.slice 25 (.slice A n c) (some (.int .i64 (l : Int))) (some (.int .i64 (h : Int))) none).run Tryz.prog w = .ok (.slice (subA A c l) (h - l) (c - l)) w := by
 have e1 : ((l : Int) ≤ (h : Int)) := by omega
 have e2 : ((h : Int) ≤ (c : Int)) := by omega
 have e3 : l ≤ c := by omega
 unfold subA
 go_simp
theorem run_subF (A : Option Addr) (n c l : Nat) (hh : l ≤ n) (hc : n ≤ c) (w : World) :
 (Instr.slice 25 (.slice A n c) (some (.int .i64 (l : Int))) none none).run Tryz.prog w = .ok (.slice (subA A c l) (n - l) (c - l)) w := by
 have e1 : ((l : Int) ≤ (n : Int)) := by omega
 have e2 : ((n : Int) ≤ (c : Int)) := by omega
 have e3 : l ≤ c := by omega
 unfold subA
 go_simp
section
variable {o : Oper} {a : Act}
theorem ex_subK {x lo hi : Operand} (ho : o.op = .slice 25 x (some lo) (some hi) none) {A : Option Addr} {n c l h : Nat} (hx : a.eval x = .slice A n c) (h1 : a.eval lo = .int .i64 (l : Int)) (h2 : a.eval hi = .int .i64 (h : Int)) (hl : l ≤ h) (hh : h ≤ n) (hc : n ≤ c) (w : World) :
 (execOp a.eval o).run Tryz.prog w = .ok (.value (.slice (subA A c l) (h - l) (c - l))) w := by
 simp [execOp, ho, hx, h1, h2, Instr.sliceAt, Sem.run_bind, run_underlying Tryz.underlying25, run_subK A n c l h hl hh hc w]
theorem ex_subF {x lo : Operand} (ho : o.op = .slice 25 x (some lo) none none) {A : Option Addr} {n c l : Nat} (hx : a.eval x = .slice A n c) (h1 : a.eval lo = .int .i64 (l : Int)) (hh : l ≤ n) (hc : n ≤ c) (w : World) :
 (execOp a.eval o).run Tryz.prog w = .ok (.value (.slice (subA A c l) (n - l) (c - l))) w := by
 simp [execOp, ho, hx, h1, Instr.sliceAt, Sem.run_bind, run_underlying Tryz.underlying25, run_subF A n c l hh hc w]
end
def tfrom : Int → Int → Int → Four := fun y u v => threeZ frM [y, u, v]
theorem tfrom_by : TurnsBy 115 tfrom := fun a b c w => tintFrom_any a b c w
theorem rtfrom_by : TurnsBy 121 tfrom := fun a b c w => rtintFrom_any a b c w
theorem goesFrom : Goes Tryz.prog 115 := ⟨_, Tryz.func115, rfl, rfl⟩
theorem rgoesFrom : Goes Tryz.prog 121 := ⟨_, Tryz.func121, rfl, rfl⟩
def clampL (zs : List Int) : List Int := zs.map fun z => clampZ z (-40000) 40000
theorem clampL_len (zs : List Int) : (clampL zs).length = zs.length := by simp [clampL]
def shB (b q : List Int) : List Int := clampL (waveR frC (bothZ upF b q 2047).1).1
theorem shB_len (b q : List Int) : (shB b q).length = 64 := by rw [shB, clampL_len]; exact waveR_len frC _
def mapS (q X : List Int) : Nat → List Int
 | 0 => []
 | k + 1 => mapS q X k ++ shB (part64 X k) q
theorem mapS_len (q X : List Int) : ∀ k, (mapS q X k).length = k * 64
 | 0 => rfl
 | k + 1 => by rw [mapS, List.length_append, mapS_len q X k, shB_len]; omega
theorem clampL_in (zs : List Int) : ∀ z ∈ clampL zs, -40000 ≤ z ∧ z ≤ 40000 := by
 intro z hz
 obtain ⟨y, -, rfl⟩ := List.mem_map.1 hz
 exact clampZ_bounds y _ _ (by omega)
theorem mapS_in (q X : List Int) : ∀ k, ∀ z ∈ mapS q X k, -40000 ≤ z ∧ z ≤ 40000
 | 0, z, hz => by cases hz
 | k + 1, z, hz => by
   rw [mapS] at hz
   rcases List.mem_append.1 hz with h | h
   ·exact mapS_in q X k z h
   ·exact clampL_in _ z h
def sect (X : List Int) (n k : Nat) : List Int := (X.drop (k * n * 64)).take (n * 64)
def planeS (q X : List Int) (a b k : Nat) : List Int := joinZ (mapS q (sect X (cutN a b) k) (cutN a b)) a b
theorem planeS_len (q X : List Int) (a b k : Nat) : (planeS q X a b k).length = a * b := joinZ_len _ _ _
def planesZ (q X : List Int) (a b p : Nat) : List (List Int) := (List.range p).map (planeS q X a b)
theorem planesZ_len (q X : List Int) (a b p : Nat) : (planesZ q X a b p).length = p := by simp [planesZ]
theorem planesZ_snoc (q X : List Int) (a b p : Nat) : planesZ q X a b (p + 1) = planesZ q X a b p ++ [planeS q X a b p] := by simp [planesZ, List.range_succ]
theorem planesZ_each (q X : List Int) (a b p : Nat) : ∀ l ∈ planesZ q X a b p, l.length = a * b := by
 intro l hl
 obtain ⟨k, -, rfl⟩ := List.mem_map.1 hl
 exact planeS_len q X a b k
def showZ (q X : List Int) (a b p : Nat) : List (List Int) := turnZ tfrom (planesZ q X a b p)
theorem sides_in {a b : Nat} (a1 : 1 ≤ a) (a2 : a ≤ 64) (b1 : 1 ≤ b) (b2 : b ≤ 64) : sidesZ a b = 0 := by
 unfold sidesZ
 rw [if_pos]
 simp [inB]
 omega
theorem joinE_show (q X : List Int) (a b : Nat) (a1 : 1 ≤ a) (a2 : a ≤ 64) (b1 : 1 ≤ b) (b2 : b ≤ 64) : joinE (cutN a b) (mapS q X (cutN a b)) a b (sidesZ a b) = 0 := by
 unfold joinE
 rw [if_pos (sides_in a1 a2 b1 b2)]
 simp only [Int.toNat_natCast]
 rw [if_pos (allIn_iff.2 (mapS_in q X _))]
 simp
theorem cutN_le {a b : Nat} (a2 : a ≤ 64) (b2 : b ≤ 64) : cutN a b ≤ 64 := by
 unfold cutN
 have h1 : (a + 7) / 8 ≤ 8 := by omega
 have h2 : (b + 7) / 8 ≤ 8 := by omega
 exact Nat.mul_le_mul h1 h2
theorem cutN_pos {a b : Nat} (a1 : 1 ≤ a) (b1 : 1 ≤ b) : 1 ≤ cutN a b := by
 unfold cutN
 have h1 : 1 ≤ (a + 7) / 8 := by omega
 have h2 : 1 ≤ (b + 7) / 8 := by omega
 exact Nat.mul_le_mul h1 h2
def PicIs (wd hi : Int) (L : List (List Int)) (w : World) (e : Ending) (w' : World) : Prop := ∃ B k d, e = .returned (.agg (picV wd hi (.slice B k d))) ∧ RowsF w' w.heap.size B k d L ∧ Ext w w'
theorem builtPicS (a b : Int) : Tryz.prog.built 31 [(0, .int .i64 a), (1, .int .i64 b)] = some (picV a b (.slice none 0 0)) := by
 show _ = _
 kernel_rfl
theorem built0PicS : Tryz.prog.built 31 [] = some (picV 0 0 (.slice none 0 0)) := by
 show _ = _
 kernel_rfl
theorem zeroPicS : (Tryz.prog.info? 31).bind (·.zero) = some (.agg (picV 0 0 (.slice none 0 0))) := by kernel_rfl
theorem pic_one (a b : Int) (A : Option Addr) (n c : Nat) : (picV a b (.slice A n c)).all (·.oneCell') = true := by simp [picV, Value.oneCell']
theorem elt_rowS : Elt Tryz.prog 29 22 1 24 := ⟨Tryz.underlying29, by kernel_rfl, by omega⟩
theorem join_show (q X : List Int) (a b : Nat) (a1 : 1 ≤ a) (a2 : a ≤ 64) (b1 : 1 ≤ b) (b2 : b ≤ 64) (k : Nat) (v : Value) (W : World) (h : SL W 64 v (cutN a b) (ints (mapS q (sect X (cutN a b) k) (cutN a b)))) :
 Calls Tryz.prog 114 #[v, .int .i64 (a : Int), .int .i64 (b : Int)] W fun e W' => ∃ D d, e = .returned (.tuple #[.slice D (a * b) d, .int .i64 0]) ∧ SL W' 1 (.slice D (a * b) d) (a * b) (ints (planeS q X a b k)) ∧ Ext W W' ∧ ∀ ad, D = some ad → W.heap.size ≤ ad.block :=
 (join_any _ _ v a b W h (mapS_len _ _ _)).mono fun e W' h => by
   unfold JoinIs at h
   rw [joinE_show q _ a b a1 a2 b1 b2, if_pos rfl, if_pos rfl] at h
   simp only [Int.toNat_natCast] at h
   obtain ⟨D, m, d, he, rfl, h1, h2, h3⟩ := h
   exact ⟨D, d, he, h1, h2, h3⟩
theorem rjoin_show (q X : List Int) (a b : Nat) (a1 : 1 ≤ a) (a2 : a ≤ 64) (b1 : 1 ≤ b) (b2 : b ≤ 64) (k : Nat) (v : Value) (W : World) (h : SL W 64 v (cutN a b) (ints (mapS q (sect X (cutN a b) k) (cutN a b)))) :
 Calls Tryz.prog 120 #[v, .int .i64 (a : Int), .int .i64 (b : Int)] W fun e W' => ∃ D d, e = .returned (.tuple #[.slice D (a * b) d, .int .i64 0]) ∧ SL W' 1 (.slice D (a * b) d) (a * b) (ints (planeS q X a b k)) ∧ Ext W W' ∧ ∀ ad, D = some ad → W.heap.size ≤ ad.block :=
 (rjoin_any _ _ v a b W h (mapS_len _ _ _)).mono fun e W' h => by
   unfold JoinIs at h
   rw [joinE_show q _ a b a1 a2 b1 b2, if_pos rfl, if_pos rfl] at h
   simp only [Int.toNat_natCast] at h
   obtain ⟨D, m, d, he, rfl, h1, h2, h3⟩ := h
   exact ⟨D, d, he, h1, h2, h3⟩
theorem planes_ok {q X : List Int} {a b p : Nat} (hp : p = 1 ∨ p = 3) : (planesZ q X a b p).length = 1 ∨ (planesZ q X a b p).length = 3 := by rw [planesZ_len]; exact hp
theorem area_le {a b : Nat} (a2 : a ≤ 64) (b2 : b ≤ 64) : a * b ≤ 1000000 := Nat.le_trans (Nat.mul_le_mul a2 b2) (by omega)
theorem turn_show (q X : List Int) (a b p : Nat) (a2 : a ≤ 64) (b2 : b ≤ 64) (hp : p = 1 ∨ p = 3) (W : World) (B : Nat) (hB : B ≤ W.heap.size) (A : Option Addr) (n c : Nat) (h : PartsAt W B (.slice A n c) (planesZ q X a b p)) :
 Calls Tryz.prog 38 #[.slice A n c, .func (.func 115) #[] #[]] W (TurnF (showZ q X a b p) B W) :=
 turned_far 115 tfrom tfrom_by goesFrom A n c _ (a * b) W (planes_ok hp) (planesZ_each q X a b p) (area_le a2 b2) B hB h.far
theorem rturn_show (q X : List Int) (a b p : Nat) (a2 : a ≤ 64) (b2 : b ≤ 64) (hp : p = 1 ∨ p = 3) (W : World) (B : Nat) (hB : B ≤ W.heap.size) (A : Option Addr) (n c : Nat) (h : PartsAt W B (.slice A n c) (planesZ q X a b p)) :
 Calls Tryz.prog 68 #[.slice A n c, .func (.func 121) #[] #[]] W (TurnF (showZ q X a b p) B W) :=
 rturned_far 121 tfrom rtfrom_by rgoesFrom A n c _ (a * b) W (planes_ok hp) (planesZ_each q X a b p) (area_le a2 b2) B hB h.far
theorem ex_subKn {o : Oper} {a : Act} {x lo hi : Operand} (ho : o.op = .slice 25 x (some lo) (some hi) none) {A : Option Addr} {m c l n : Nat} (hx : a.eval x = .slice A m c) (h1 : a.eval lo = .int .i64 (l : Int)) (h2 : a.eval hi = .int .i64 ((l : Int) + (n : Int))) (hh : l + n ≤ m) (hc : m ≤ c) (w : World) :
 (execOp a.eval o).run Tryz.prog w = .ok (.value (.slice (subA A c l) n (c - l))) w := by
 have := ex_subK (h := l + n) ho hx h1 (by rw [h2]; simp) (by omega) hh hc w
 rwa [Nat.add_sub_cancel_left] at this
theorem SL.sect {w : World} {A : Option Addr} {m c n k lo : Nat} {X : List Int} (h : SL w 64 (.slice A m c) m (ints X)) (hlo : k * n = lo) (hm : lo + n ≤ m) : SL w 64 (.slice (subA A c lo) n (c - lo)) n (ints (sect X n k)) := by
 have := h.subK (l := lo) (h := lo + n) (by omega) hm
 rw [Nat.add_sub_cancel_left] at this
 unfold Go.Proofs.YtkggcjdlpendfaaGreatDoor.sect
 rw [hlo]
 unfold ints at this ⊢
 rwa [← List.map_drop, ← List.map_take] at this
theorem sect_len {X : List Int} {m n k lo : Nat} (hX : X.length = m * 64) (hlo : k * n = lo) (hm : lo + n ≤ m) : (sect X n k).length = n * 64 := by
 unfold sect
 rw [List.length_take, List.length_drop, hX, hlo]
 have := Nat.mul_le_mul_right 64 hm
 rw [Nat.add_mul] at this
 omega
def clampM (P : List Int) (i : Nat) : List Int := clampL (P.take i) ++ P.drop i
theorem clampM_0 (P : List Int) : clampM P 0 = P := by simp [clampM, clampL]
theorem clampM_all (P : List Int) (h : P.length = 64) : clampM P 64 = clampL P := by unfold clampM; rw [List.take_of_length_le (by omega), List.drop_eq_nil_of_le (by omega), List.append_nil]
theorem clampM_len (P : List Int) (i : Nat) (h : P.length = 64) (hi : i ≤ 64) : (clampM P i).length = 64 := by
 unfold clampM
 rw [List.length_append, clampL_len, List.length_take, List.length_drop]
 omega
theorem clampM_set (P : List Int) (i : Nat) (z : Int) (hz : P[i]? = some z) : (clampM P i).set i (clampZ z (-40000) 40000) = clampM P (i + 1) := by
 have hi : i < P.length := (List.getElem?_eq_some_iff.1 hz).1
 have hzi : P[i] = z := by rw [List.getElem?_eq_getElem hi] at hz; exact Option.some.inj hz
 unfold clampM
 have hl : (clampL (P.take i)).length = i := by rw [clampL_len, List.length_take]; omega
 rw [List.set_append_right _ _ (by omega), hl, Nat.sub_self, List.drop_eq_getElem_cons hi, List.set_cons_zero, List.take_succ_eq_append_getElem hi]
 simp [clampL, hzi]
theorem clampM_get (P : List Int) (i : Nat) (z : Int) (h : P.length = 64) (hz : P[i]? = some z) : (clampM P i)[i]? = some z := by
 have hi : i < P.length := (List.getElem?_eq_some_iff.1 hz).1
 unfold clampM
 have hl : (clampL (P.take i)).length = i := by rw [clampL_len, List.length_take]; omega
 rw [List.getElem?_append_right (by omega), hl, Nat.sub_self, List.getElem?_drop]
 simpa using hz
theorem bv_get {xs : List Int} {i : Nat} {z : Int} (h : xs[i]? = some z) : (bv xs)[i]? = some (.int .i64 z) := by
 unfold bv ints
 rw [List.getElem?_toArray, List.getElem?_map, h]
 rfl
theorem wl_storeLL {ops : Array Oper} {Q : Exit → Act → World → Prop} {rest : List Oper} {o : Oper} {a : Act} {w : World} (hg : o.guard = none) (x y : Operand) (ho : o.op = .store 29 x y) (g i : Nat) (A : Option Addr) (n c : Nat) (hx : a.eval x = .pointer (some ⟨g, i, none⟩)) (hy : a.eval y = .slice A n c)
 {t : TypeId} {cs : Array Value} (hB : Blk w g t cs) (hi : i < cs.size) (h : wpList Tryz.prog ops Q rest (a.put o.dst undef) (w.setCell ⟨g, i, none⟩ (.slice A n c))) : wpList Tryz.prog ops Q (o :: rest) a w :=
 wpList_plain hg fun _ hK => by
  have hc := (hB.cell i).trans (Array.getElem?_eq_getElem hi)
  have hf := hB.frozen i
  unfold Oper.wp execOp
  simp only [ho, hx, hy]
  go_simp
  exact hK _ _ h
theorem picV_set (a b : Int) (u v : Value) : (picV a b u).setIfInBounds 2 v = picV a b v := rfl
theorem upon_in {l n : Nat} {P : Program} {o : Oper} {a : Act} {K K' : Act → World → Prop} {Q : Exit → Act → World → Prop} (hK : ∀ a w, K a w → K' a w) (r : Result Next) (h : o.upon P a K Q r) : o.uponIn (Fence.wide.inRound l) n P a K' Q r := by
 cases r with
 | ok v w' =>
   cases v with
   | value v => exact hK _ _ h
   | skip => exact hK _ _ h
   | defer d => exact hK _ _ h
   | enter f args =>
     refine ⟨fun q => (by cases q), CallsIn.inRound l (callsIn_wide.2 (Calls.mono h ?_))⟩
     intro e w'' h
     cases e with
     | returned v => exact hK _ _ h
     | panicked ch => exact h
     | outgrown => exact h
   | row row args =>
     refine ⟨fun q => (by cases q), fun c cs _ => ?_⟩
     obtain ⟨v, w', r, s⟩ := h c cs
     exact ⟨v, w', hK _ _ r, stepsIn_wide.2 s⟩
   | _ => exact h.elim
 | halt h0 w' =>
   cases h0 with
   | panic v => exact h
   | _ => exact h.elim
theorem wl_in {l n : Nat} {P : Program} {ops : Array Oper} {Q : Exit → Act → World → Prop} (hQ : ¬ LetsOut Q) : ∀ (rest : List Oper) (a : Act) (w : World), (rest.all fun o => match o.op with | .defer _ => false | _ => true) = true → wpList P ops Q rest a w → wpListIn (Fence.wide.inRound l) n P ops Q rest a w
 | [], _, _, _, h => h
 | o :: rest, a, w, hd, h => by
   rw [List.all_cons, Bool.and_eq_true] at hd
   have hdo : ∀ c, o.op ≠ .defer c := fun c e => by have := hd.1; rw [e] at this; cases this
   unfold wpList at h
   unfold wpListIn
   split
   ·rename_i hw
    rw [if_pos hw] at h
    rcases h with h | h
    ·refine ⟨fun f _ => trivial, ?_⟩
     show o.uponIn _ n P a _ Q ((o.semAt (some l) a.eval).run P w)
     rw [Oper.semAt_some l _ o hdo]
     exact upon_in (fun a w h => wl_in hQ rest a w hd.2 h) _ h
    ·exact absurd h.2 hQ
   ·rename_i hw
    rw [if_neg hw] at h
    exact ⟨fun f _ => trivial, wl_in hQ rest _ _ hd.2 h⟩
theorem region_in {l n id : Nat} {P : Program} {L : List Oper} {Q : Exit → Act → World → Prop} {a : Act} {w : World} (hQ : ¬ LetsOut Q) (hd : (L.all fun o => match o.op with | .defer _ => false | _ => true) = true) (h : wpList P L.toArray Q L a w) :
 (Code.region id L.toArray false).wpIn (Fence.wide.inRound l) n P Q a w := wpIn_region_lit (wl_in hQ L a w hd h)
theorem ex_lenB {o : Oper} {a : Act} {x : Operand} (ho : o.op = .call { callee := .builtin .len, args := #[x], argTypes := #[25] }) {A : Option Addr} {n c : Nat} (hx : a.eval x = .slice A n c) (w : World) : (execOp a.eval o).run Tryz.prog w = .ok (.value (.int .i64 (n : Int))) w := by
 simp [execOp, ho, resolve, invoke, builtin, hx, Result.andThen, Builtin.len_, goInt]
section
open Go.RowKit Go.Shelf
attribute [local go_sem] Oper.semAt_some
theorem ext_grown {w w' : World} (h : Ext w w') : w.grownBy w' none := ⟨h.os, h.tape, h.output, h.size, fun k hk _ => h.block k hk⟩
theorem wide_run {n : Nat} {P : Program} {ops : Array Oper} {Q : Exit → Act → World → Prop} {rest : List Oper} {o : Oper} {a : Act} {w : World} (hg : o.guard = none) (v : Value) (h1 : (execOp a.eval o).run P w = .ok (.value v) w)
 (h : wpListIn Fence.wide n P ops Q rest (a.put o.dst v) w) : wpListIn Fence.wide n P ops Q (o :: rest) a w :=
 wpListIn_plain hg fun K hK => ⟨fun _ _ => trivial, by
  show o.uponIn _ n P a K Q ((execOp a.eval o).run P w)
  rw [h1]
  exact hK _ _ h⟩
theorem ex_loadSB {o : Oper} {a : Act} {x : Operand} (ho : o.op = .load 25 x) {p : Addr} (hx : a.eval x = .pointer (some p)) {A : Option Addr} {n c : Nat} {w : World} (h : w.cell? p = some (.slice A n c)) : (execOp a.eval o).run Tryz.prog w = .ok (.value (.slice A n c)) w := by
 have hr : (loadVar 25 p).run Tryz.prog w = .ok (.slice A n c) w := by
  have hi : (Tryz.prog.info? 25).map (·.size) = some 1 := by kernel_rfl
  simp [loadVar, Sem.run_bind, isAgg, run_underlying Tryz.underlying25, run_load, h]
 simp [execOp, ho, hx, Instr.loadAt, Instr.sureAddr, Sem.run_bind, hr]
def partV (A : Addr) (n k : Nat) : Value := .slice (some (A.add (k * n * 64))) n n
theorem run_subM0 (A : Addr) (m c l h : Nat) (hn : l < h) (hh : h ≤ m) (hc : m ≤ c) (w : World) :
 (Instr.slice 25 (.slice (some A) m c) (some (.int .i64 (l : Int))) (some (.int .i64 (h : Int))) (some (.int .i64 (h : Int)))).run Tryz.prog w = .ok (.slice (some (A.add (l * 64))) (h - l) (h - l)) w := by
 have e1 : ((l : Int) ≤ (h : Int)) := by omega
 have e2 : ((h : Int) ≤ (c : Int)) := by omega
 have e4 : ¬ h = l := by omega
 have e5 : l ≤ h := by omega
 go_simp
theorem run_subM (A : Addr) (m c l n : Nat) (hn : 1 ≤ n) (hh : l + n ≤ m) (hc : m ≤ c) (w : World) :
 (Instr.slice 25 (.slice (some A) m c) (some (.int .i64 (l : Int))) (some (.int .i64 ((l + n : Nat) : Int))) (some (.int .i64 ((l + n : Nat) : Int)))).run Tryz.prog w = .ok (.slice (some (A.add (l * 64))) n n) w := by
 have := run_subM0 A m c l (l + n) (by omega) hh hc w
 rwa [Nat.add_sub_cancel_left] at this
theorem ex_subM {o : Oper} {a : Act} {x lo hi mx : Operand} (ho : o.op = .slice 25 x (some lo) (some hi) (some mx)) {A : Addr} {m c l n h : Nat} (hx : a.eval x = .slice (some A) m c) (h1 : a.eval lo = .int .i64 (l : Int)) (h2 : a.eval hi = .int .i64 (h : Int)) (h3 : a.eval mx = .int .i64 (h : Int)) (hlh : l + n = h) (hn : 1 ≤ n) (hh : h ≤ m) (hc : m ≤ c) (w : World) :
 (execOp a.eval o).run Tryz.prog w = .ok (.value (.slice (some (A.add (l * 64))) n n)) w := by
 subst hlh
 simp only [execOp, ho, hx, h1, h2, h3, Instr.sliceAt, Sem.run_bind, run_underlying Tryz.underlying25, Option.map_some, run_subM A m c l n hn hh hc w, Result.andThen_ok, Sem.run_pure]
set_option maxHeartbeats 1000000 in
theorem chunk_any (A : Option Addr) (m c n : Nat) (hn : 1 ≤ n) (w : World) :
 Calls Tryz.prog 111 #[.slice A m c, .int .i64 (n : Int)] w fun e w' => ∃ g1 g2, e = .returned (.func (.func 165) #[] #[.pointer (some ⟨g1, 0, none⟩), .pointer (some ⟨g2, 0, none⟩)]) ∧ Blk w' g1 25 #[.slice A m c] ∧ Blk w' g2 3 #[.int .i64 (n : Int)] ∧ w.heap.size ≤ g1 ∧ w.heap.size ≤ g2 ∧ Ext w w' := by
 have hn1 : decide ((n : Int) < 1) = false := by rw [decide_eq_false_iff_not]; omega
 go_enter Tryz.func111, Tryz.ntmps111
 go_wp2_with (first
  | ((with_reducible apply gS 2); refine wBox rfl 25 (.tmp 0) rfl #[.slice A m c] rfl ?_; intro w1 g1 hb1 hx1 hg1)
  | ((with_reducible apply gS 3); refine wBox rfl 3 (.tmp 1) rfl #[.int .i64 (n : Int)] rfl ?_; intro w2 g2 hb2 hx2 hg2; have hb12 := hb1.ext hx2; have hc2 : w2.cell? ⟨g2, 0, none⟩ = some (.int .i64 (n : Int)) := hb2.cell 0)
  | ((with_reducible apply gS 5); refine wl_read rfl (.int .i64 (n : Int)) (ex_loadI rfl rfl hc2) ?_)
  | ((with_reducible apply gS 6); refine wl_run rfl (.bool false) (ex_lss rfl rfl rfl hn1) ?_))
 go_ret
 exact ⟨g1, g2, rfl, hb12, hb2, hg1, Nat.le_trans hx1.size hg2, hx1.trans hx2⟩
end
section
open Go.RowKit Go.Shelf
attribute [local go_sem] Oper.semAt_some
def KpC (n₀ g1 g2 : Nat) (W W' : World) : Prop := Below n₀ W W' ∧ W'.heap[g1]? = W.heap[g1]? ∧ W'.heap[g2]? = W.heap[g2]?
theorem KpC.trans {n₀ g1 g2 : Nat} {A B C : World} (h : KpC n₀ g1 g2 A B) (k : KpC n₀ g1 g2 B C) : KpC n₀ g1 g2 A C := ⟨h.1.trans k.1, k.2.1.trans h.2.1, k.2.2.trans h.2.2⟩
theorem abides_ext {β : Type} {B : Nat} {J : β → World → Prop} (h : AbidesFrom B J) {s : β} {W W' : World} (hs : J s W) (hx : Ext W W') : J s W' := h s W W' none hs (ext_grown hx) (fun _ e => by cases e)
theorem finTake {p k : Nat} (hk : k < p) : (List.finRange p).take (k + 1) = (List.finRange p).take k ++ [⟨k, hk⟩] := by
 rw [List.take_succ_eq_append_getElem (by simpa using hk)]
 simp
set_option maxRecDepth 100000 in
set_option maxHeartbeats 4000000 in
theorem chunk1_in (N l g1 g2 n₀ B : Nat) (A : Addr) (m c n p : Nat) (hn : 1 ≤ n) (hm : m = p * n) (hmc : m ≤ c) (hm4 : m ≤ 100000) (J Jx : List (Fin p) → World → Prop) (hJ : AbidesFrom B J) (hJx : AbidesFrom B Jx)
 (hY : ∀ pre (x : Fin p) W1, J pre W1 → pre.length < p → YieldAt Fence.wide (N - 1) Tryz.prog l #[partV A n x.1] W1 fun e W' => (e = .returned (.bool true) ∧ J (pre ++ [x]) W' ∧ KpC n₀ g1 g2 W1 W') ∨ (e = .returned (.bool false) ∧ Jx (pre ++ [x]) W'))
 (W : World) (hb1 : Blk W g1 25 #[.slice (some A) m c]) (hb2 : Blk W g2 3 #[.int .i64 (n : Int)]) (h0 : J [] W) :
 CallsIn Fence.wide N Tryz.prog 165 #[.func (.yield l) #[] #[], .pointer (some ⟨g1, 0, none⟩), .pointer (some ⟨g2, 0, none⟩)] W fun e W' => (∃ v, e = .returned v) ∧
  ((∃ ys, ys = List.finRange p ∧ J ys W') ∨ (∃ pre, True ∧ Jx pre W')) := by
 have HM := hid_ hm
 clear hm
 refine callsIn_of_wp Tryz.func165 rfl trivial ?_ rfl
 simp only [Tryz.ntmps165, List.size_toArray, List.length_cons, List.length_nil, Nat.reduceAdd, Nat.reduceSub, Array.replicate_succ, Array.replicate_zero, List.push_toArray, List.append_toArray, List.nil_append, List.cons_append]
 gi_wp2
 gi_loopw [4] (fun iv wr => ∃ k lo : Nat, k ≤ p ∧ Hid (k * n = lo) ∧ iv = .int .i64 (lo : Int) ∧ J ((List.finRange p).take k) wr ∧ Blk wr g1 25 #[.slice (some A) m c] ∧ Blk wr g2 3 #[.int .i64 (n : Int)])
  (fun iv _ => m - (intOf iv).toNat)
 case atStart => exact ⟨0, 0, by omega, hid_ (by simp), rfl, by simpa using h0, hb1, hb2⟩
 case round =>
  clear hb1 hb2 h0
  obtain ⟨k, lo, hk, HLO, rfl, hJs, hb1, hb2⟩ := hrel
  have hc1 : wr.cell? ⟨g1, 0, none⟩ = some (.slice (some A) m c) := hb1.cell 0
  have hc2 : wr.cell? ⟨g2, 0, none⟩ = some (.int .i64 (n : Int)) := hb2.cell 0
  by_cases hkp : k < p
  ·have hlm : lo + n ≤ m := by
    rw [HM.out, ← HLO.out]
    have := Nat.mul_le_mul_right n (show k + 1 ≤ p by omega)
    rw [Nat.add_mul] at this
    omega
   have hlt : decide ((lo : Int) < (m : Int)) = true := by rw [decide_eq_true_eq]; omega
   have HPV : Hid (partV A n k = .slice (some (A.add (lo * 64))) n n) := hid_ (by unfold partV; rw [HLO.out])
   gi_wp2_with (first
    | ((with_reducible show wpListIn _ _ _ _ _ (⟨some 7, _, _, _, _, _⟩ :: _) _ _); refine wide_run rfl (.slice (some A) m c) (ex_loadSB rfl rfl hc1) ?_)
    | ((with_reducible show wpListIn _ _ _ _ _ (⟨some 9, _, _, _, _, _⟩ :: _) _ _); refine wide_run rfl (.bool true) (ex_lss rfl rfl rfl hlt _) ?_))
   have hbd1 : ∀ w', Ext wr.drew w' → w'.cell? ⟨g1, 0, none⟩ = some (.slice (some A) m c) := fun w' h => (h.cell (p := ⟨g1, 0, none⟩) hb1.lt).trans hc1
   have hbd2 : ∀ w', Ext wr.drew w' → w'.cell? ⟨g2, 0, none⟩ = some (.int .i64 (n : Int)) := fun w' h => (h.cell (p := ⟨g2, 0, none⟩) hb2.lt).trans hc2
   refine wpIn_wide.2 ?_
   refine wp_region_lx later_ext (by kernel_rfl) (by kernel_rfl) ?_
   simp only [Act.put, sA, sB, sC]
   refine lx_read (by rfl) (.int .i64 (n : Int)) (fun W hW => ex_loadI rfl rfl (hbd2 W hW)) ?_
   simp only [Act.put, sA, sB, sC]
   refine lx_read (by rfl) (.slice (some A) m c) (fun W hW => ex_loadSB rfl rfl (hbd1 W hW)) ?_
   simp only [Act.put, sA, sB, sC]
   refine lx_run (by rfl) (.int .i64 (lo : Int)) (ex_move rfl rfl) ?_
   simp only [Act.put, sA, sB, sC]
   refine lx_run (by rfl) (.slice (subA (some A) c lo) (m - lo) (c - lo)) (ex_subF rfl rfl rfl (by omega) hmc) ?_
   simp only [Act.put, sA, sB, sC]
   refine lx_run (by rfl) (.int .i64 ((m - lo : Nat) : Int)) (ex_lenB rfl rfl) ?_
   simp only [Act.put, sA, sB, sC]
   refine lx_run (by rfl) (.int .i64 ((min n (m - lo) : Nat) : Int)) (ex_minN rfl rfl rfl) ?_
   simp only [Act.put, sA, sB, sC]
   refine lx_run (by rfl) (.int .i64 (n : Int)) (by rw [show n = min n (m - lo) by omega]; exact ex_assign rfl (by rw [show min (min n (m - lo)) (m - lo) = min n (m - lo) by omega]; rfl)) ?_
   simp only [Act.put, sA, sB, sC]
   refine lx_nil ?_
   intro w9 hx9
   have hJ9 := abides_ext hJ hJs ((Ext.refl wr).drew.trans hx9)
   have hb19 : Blk w9 g1 25 #[.slice (some A) m c] := hb1.drew.ext hx9
   have hb29 : Blk w9 g2 3 #[.int .i64 (n : Int)] := hb2.drew.ext hx9
   have hc19 := hbd1 w9 hx9
   obtain ⟨hh, hhe⟩ : ∃ hh, lo + n = hh := ⟨_, rfl⟩
   have HH := hid_ hhe
   have hhm : hh ≤ m := by omega
   clear hhe hbd1 hbd2 hc1 hc2 hb1 hb2 hJs
   obtain ⟨fn, tmps, assign, body, hy, hR⟩ := hY _ ⟨k, hkp⟩ w9 hJ9 (by simp; omega)
   rw [← finTake hkp] at hR
   dsimp only at hy
   generalize hpv : partV A n k = pv at *
   gi_wp2_with (first
    | ((with_reducible show wpListIn _ _ _ _ _ (⟨some 20, _, _, _, _, _⟩ :: _) _ _); refine wide_run rfl (.slice (some A) m c) (ex_loadSB rfl rfl hc19) ?_)
    | ((with_reducible show wpListIn _ _ _ _ _ (⟨some 24, _, _, _, _, _⟩ :: _) _ _); refine wide_run rfl (.int .i64 (hh : Int)) (by rw [← HH.out]; exact ex_addN (i := lo) (d := n) rfl rfl rfl (by omega) _) ?_)
    | ((with_reducible show wpListIn _ _ _ _ _ (⟨some 27, _, _, _, _, _⟩ :: _) _ _); refine wide_run rfl (.int .i64 (hh : Int)) (by rw [← HH.out]; exact ex_addN (i := lo) (d := n) rfl rfl rfl (by omega) _) ?_)
    | ((with_reducible show wpListIn _ _ _ _ _ (⟨some 28, _, _, _, _, _⟩ :: _) _ _); refine wide_run rfl pv (by rw [HPV.out]; exact ex_subM rfl rfl rfl rfl rfl HH.out hn hhm hmc _) ?_))
   refine ⟨fun h => (by cases h), hR.mono ?_⟩
   rintro e W3 (⟨rfl, hJ3, hk3⟩ | ⟨rfl, hJx3⟩)
   ·have hb13 : Blk W3 g1 25 #[.slice (some A) m c] := hk3.2.1.trans hb19
    have hb23 : Blk W3 g2 3 #[.int .i64 (n : Int)] := hk3.2.2.trans hb29
    have hc23 : W3.cell? ⟨g2, 0, none⟩ = some (.int .i64 (n : Int)) := hb23.cell 0
    gi_wp2_with (first
     | ((with_reducible show wpListIn _ _ _ _ _ (⟨some 11, _, _, _, _, _⟩ :: _) _ _); refine wide_run rfl (.int .i64 (n : Int)) (ex_loadI rfl rfl hc23) ?_)
     | ((with_reducible show wpListIn _ _ _ _ _ (⟨some 12, _, _, _, _, _⟩ :: _) _ _); refine wide_run rfl (.int .i64 (hh : Int)) (by rw [← HH.out]; exact ex_addN (i := lo) (d := n) rfl rfl rfl (by omega) _) ?_))
    go_roundw
    case rel => exact ⟨k + 1, hh, by omega, hid_ (by rw [Nat.add_mul, HLO.out, Nat.one_mul, HH.out]), by go_num, hJ3, hb13, hb23⟩
    case measure => simp [intOf]; have := HH.out; omega
   ·gi_wp2
    refine bodyPost_ret (results_none rfl _ _ _) rfl ?_
    exact ⟨⟨_, rfl⟩, .inr ⟨_, trivial, hJx3⟩⟩
  ·have ekp : k = p := by omega
   have elo : lo = m := by rw [← HLO.out, HM.out, ekp]
   subst elo
   have hlt : decide ((lo : Int) < (lo : Int)) = false := by rw [decide_eq_false_iff_not]; omega
   have hJz : J (List.finRange p) wr := by rw [ekp, List.take_of_length_le (by simp)] at hJs; exact hJs
   gi_wp2_with (first
    | ((with_reducible show wpListIn _ _ _ _ _ (⟨some 7, _, _, _, _, _⟩ :: _) _ _); refine wide_run rfl (.slice (some A) lo c) (ex_loadSB rfl rfl hc1) ?_)
    | ((with_reducible show wpListIn _ _ _ _ _ (⟨some 9, _, _, _, _, _⟩ :: _) _ _); refine wide_run rfl (.bool false) (ex_lss rfl rfl rfl hlt _) ?_))
   go_end0
   exact ⟨⟨_, rfl⟩, .inl ⟨_, rfl, hJz⟩⟩
theorem chunk_stops (N g1 g2 n₀ : Nat) (A : Addr) (m c n p : Nat) (hn : 1 ≤ n) (hm : m = p * n) (hmc : m ≤ c) (hm4 : m ≤ 100000) (w : World) (hb1 : Blk w g1 25 #[.slice (some A) m c]) (hb2 : Blk w g2 3 #[.int .i64 (n : Int)]) :
 SeqStopsK Fence.wide N Tryz.prog 165 #[.pointer (some ⟨g1, 0, none⟩), .pointer (some ⟨g2, 0, none⟩)] (fun x : Fin p => #[partV A n x.1]) (KpC n₀ g1 g2) (fun ys => ys = List.finRange p) (fun _ => True) p w := fun l J Jx W hW hJ hJx hY h0 =>
 chunk1_in N l g1 g2 n₀ W.heap.size A m c n p hn hm hmc hm4 J Jx hJ hJx hY W (hb1.ext hW) (hb2.ext hW) h0
end
section
open Go.RowKit Go.Shelf
theorem range_one {α : Type} {P : Program} {n : Nat} {g : Operand} {assign body : Code} {p q : Tmp} {Q : Exit → Act → World → Prop} {a : Act} {w : World} {gf : Nat} {lb : Array Value} (hg : a.eval g = .func (.func gf) #[] lb) (eg : ∀ args w, (callFunc gf args).run P w = .ok (.enter gf args) w)
 {enc : α → Value} {Kp : World → World → Prop} {S : List α → Prop} {N : Nat} {w0 : World} (hseq : SeqStopsK Fence.wide (n - 1) P gf lb (fun x => #[enc x]) Kp S (fun _ => True) N w0) (h1 : 1 ≤ n)
 (hKt : ∀ {A B C : World}, Kp A B → Kp B C → Kp A C) (hKb : ∀ (W : World) (l : Nat) (o o' : Obj), w.heap.size ≤ l → W.heap[l]? = some o → o.isCells = false → o.isWalk = false → Kp W (W.putObj l o')) (hb0 : Below w0.heap.size w0 w)
 (I : List α → World → Prop) (hI : OwnFrom w.heap.size I) (h0 : I [] w)
 (hassign : ∀ (l : Nat) (x : α) (W : World) (K : Act → World → Prop), K { tmps := (a.tmps.setIfInBounds p (enc x)).setIfInBounds q (enc x), defers := [] } W → assign.wpIn (Fence.wide.inRound l) (n - 1 - 1) P (Exit.then K (fun _ _ _ => False)) { tmps := a.tmps.setIfInBounds p (enc x), defers := [] } W)
 (hbody : ∀ (l : Nat) (pre : List α) (x : α) (W : World), I pre W → pre.length < N → body.wpIn (Fence.wide.inRound l) (n - 1 - 1) P (ownPostG w.heap.size Kp I (fun _ _ _ => False) (pre ++ [x]) W) { tmps := (a.tmps.setIfInBounds p (enc x)).setIfInBounds q (enc x), defers := [] } W)
 (hdone : ∀ (D : Nat) (xs : List α) (W : World), w.heap.size ≤ D → S xs → I xs W → W.heap[D]? = some (.deferred (some [])) → Q .normal { a with defers := { target := .collected D, args := #[] } :: a.defers } W) :
 (Code.rangeFunc g #[p] assign body).wp P Q a w :=
 (wpIn_wide (n := n)).1 (wpIn_rangeFunc_ownG (ps := #[p]) (assign := assign) rfl h1 hg trivial eg hseq hKt hKb hb0 (fun _ => rfl) I (fun _ _ _ => False) hI (fun _ _ _ _ _ hs _ _ => hs) h0
   (fun x => { tmps := (a.tmps.setIfInBounds p (enc x)).setIfInBounds q (enc x), defers := [] })
   (fun l x W K hK => by have := hassign l x W K hK; simpa using this) hbody hdone (fun _ _ _ _ _ _ h _ => h.elim))
section
variable {X Y : World} {row : Option Nat}
theorem blk_kept {g : Nat} {T : TypeId} {cs : Array Value} (h : Blk X g T cs) (hg : X.grownBy Y row) (hr : ∀ r, row = some r → ∃ o : Obj, X.heap[r]? = some o ∧ o.isCells = false) : Blk Y g T cs :=
 (hg.block g h.lt (fun e => by
   obtain ⟨o, h1, h2⟩ := hr g e.symm
   unfold Blk at h
   rw [h] at h1
   injection h1 with h1
   subst h1
   cases h2)).trans h
theorem sl_kept {size n c : Nat} {A : Option Addr} {xs : List Value} (h : SL X size (.slice A n c) n xs) (hg : X.grownBy Y row) (hr : ∀ r, row = some r → ∃ o : Obj, X.heap[r]? = some o ∧ o.isCells = false) : SL Y size (.slice A n c) n xs := by
 obtain ⟨A', c', e, h1, h1', h2, h3⟩ := h
 injection e with e1 e2 e3
 subst e1 e3
 refine ⟨A, c, rfl, h1, h1', h2, fun hn => ?_⟩
 obtain ⟨ad, ea, hlt, hc⟩ := h3 hn
 exact ⟨ad, ea, Nat.lt_of_lt_of_le hlt hg.size, fun j u hj => cell_kept (hc j u hj) hg hr⟩
theorem parts_kept {B : Nat} {v : Value} {L : List (List Int)} (h : PartsAt X B v L) (hg : X.grownBy Y row) (hr : ∀ r, row = some r → ∃ o : Obj, X.heap[r]? = some o ∧ o.isCells = false) : PartsAt Y B v L := by
 obtain ⟨A, c, vs, rfl, ho, hp⟩ := h
 refine ⟨A, c, vs, rfl, own_upd2 ho (upd_grown hg) (fun b hb e => ?_), fun k l hl => ?_⟩
 ·obtain ⟨cs, h1⟩ := own_typed ho b hb
  obtain ⟨o, h2, h3⟩ := hr b e
  rw [h1] at h2
  injection h2 with h2
  subst h2
  cases h3
 ·obtain ⟨D, d, e, hs, hd⟩ := hp k l hl
  exact ⟨D, d, e, sl_kept hs hg hr, fun ad ea => by obtain ⟨h1, h2, h3⟩ := hd ad ea; exact ⟨h1, Nat.lt_of_lt_of_le h2 hg.size, h3⟩⟩
end
theorem keepsFrom_upd {S : Nat → Prop} {B : Nat} {W W' : World} (hu : Upd S W W') (hS : ∀ x, S x → ∃ cs T r, W.heap[x]? = some (.cells cs T r)) : KeepsFrom B W W' :=
 ⟨hu.size, fun k o _ hk ho => by
  refine (hu.block k (Array.getElem?_eq_some_iff.1 hk).1 (fun h => ?_)).trans hk
  obtain ⟨cs, T, r, h1⟩ := hS k h
  rw [h1] at hk
  injection hk with hk
  subst hk
  cases ho⟩
end
theorem fwithin_any (n lo hi : Int) (w : World) :
 Calls Tryz.prog 108 #[.int .i64 n, .int .i64 lo, .int .i64 hi] w fun e w' => e = .returned (.bool (inB n lo hi)) ∧ w = w' := by
 by_cases h : lo ≤ n
 ·have h' : decide (lo ≤ n) = true := by simpa using h
  have e : inB n lo hi = decide (n ≤ hi) := by rw [Bool.eq_iff_iff, inB_iff]; simp; omega
  rw [e]; clear e
  go_enter Tryz.func108, Tryz.ntmps108
  go_wp2
  go_ret
  exact ⟨rfl, rfl⟩
 ·have h' : decide (lo ≤ n) = false := by simpa using h
  have e : inB n lo hi = false := inB_not.2 (by omega)
  rw [e]; clear e
  go_enter Tryz.func108, Tryz.ntmps108
  go_wp2
  go_ret
  exact ⟨rfl, rfl⟩
set_option maxRecDepth 20000 in
set_option maxHeartbeats 4000000 in
theorem fcheck_na (wd hi pt ev : Int) (qs : List Int) (t1 t2 : List Value) (sd : Value) (w : World) (hq : qs.length = 64) (h1 : t1.length = 17) (h2 : t2.length = 17) (k1 : inB wd 1 64 = false) :
 Calls Tryz.prog 50 #[.agg (fileL wd hi pt qs t1 t2 ev sd).toArray] w fun e w' => e = .returned (.int .i64 1) ∧ Ext w w' := by
 have HF := hid_ (fun W g (hb : Blk W g 47 (fileL wd hi pt qs t1 t2 ev sd).toArray) => fileB hb hq h1 h2)
 have W1 := hid_ (fun W => fwithin_any wd 1 64 W)
 have W2 := hid_ (fun W => fwithin_any hi 1 64 W)
 have W3 := hid_ (fun W => fwithin_any ev 0 100 W)
 generalize (fileL wd hi pt qs t1 t2 ev sd).toArray = fv at *
 generalize inB wd 1 64 = b1 at *
 generalize inB hi 1 64 = b2 at *
 generalize inB ev 0 100 = b3 at *
 subst k1
 go_enter Tryz.func50, Tryz.ntmps50
 go_wp2_with (first
  | (refine wBox rfl 47 (.tmp 0) rfl fv rfl ?_; intro w1 g hb1 hx1 hg; obtain ⟨c0, c1, c2, -, -, -, -, c101, -⟩ := HF.out _ _ hb1)
  | (go_at_call 108; (with_reducible refine (W1.out _).mono ?_); rintro e w2 ⟨rfl, rfl⟩)
  | (go_at_call 108; (with_reducible refine (W2.out _).mono ?_); rintro e w2 ⟨rfl, rfl⟩)
  | (go_at_call 108; (with_reducible refine (W3.out _).mono ?_); rintro e w2 ⟨rfl, rfl⟩))
 go_ret
 exact ⟨rfl, hx1⟩
set_option maxRecDepth 20000 in
set_option maxHeartbeats 4000000 in
theorem fcheck_nb (wd hi pt ev : Int) (qs : List Int) (t1 t2 : List Value) (sd : Value) (w : World) (hq : qs.length = 64) (h1 : t1.length = 17) (h2 : t2.length = 17) (k1 : inB wd 1 64 = true) (k2 : inB hi 1 64 = false) :
 Calls Tryz.prog 50 #[.agg (fileL wd hi pt qs t1 t2 ev sd).toArray] w fun e w' => e = .returned (.int .i64 1) ∧ Ext w w' := by
 have HF := hid_ (fun W g (hb : Blk W g 47 (fileL wd hi pt qs t1 t2 ev sd).toArray) => fileB hb hq h1 h2)
 have W1 := hid_ (fun W => fwithin_any wd 1 64 W)
 have W2 := hid_ (fun W => fwithin_any hi 1 64 W)
 have W3 := hid_ (fun W => fwithin_any ev 0 100 W)
 generalize (fileL wd hi pt qs t1 t2 ev sd).toArray = fv at *
 generalize inB wd 1 64 = b1 at *
 generalize inB hi 1 64 = b2 at *
 generalize inB ev 0 100 = b3 at *
 subst k1 k2
 go_enter Tryz.func50, Tryz.ntmps50
 go_wp2_with (first
  | (refine wBox rfl 47 (.tmp 0) rfl fv rfl ?_; intro w1 g hb1 hx1 hg; obtain ⟨c0, c1, c2, -, -, -, -, c101, -⟩ := HF.out _ _ hb1)
  | (go_at_call 108; (with_reducible refine (W1.out _).mono ?_); rintro e w2 ⟨rfl, rfl⟩)
  | (go_at_call 108; (with_reducible refine (W2.out _).mono ?_); rintro e w2 ⟨rfl, rfl⟩)
  | (go_at_call 108; (with_reducible refine (W3.out _).mono ?_); rintro e w2 ⟨rfl, rfl⟩))
 go_ret
 exact ⟨rfl, hx1⟩
set_option maxRecDepth 20000 in
set_option maxHeartbeats 4000000 in
theorem fcheck_nc (wd hi pt ev : Int) (qs : List Int) (t1 t2 : List Value) (sd : Value) (w : World) (hq : qs.length = 64) (h1 : t1.length = 17) (h2 : t2.length = 17) (k1 : inB wd 1 64 = true) (k2 : inB hi 1 64 = true) (p1 : (pt != 1) = true) (p2 : (pt != 3) = true) :
 Calls Tryz.prog 50 #[.agg (fileL wd hi pt qs t1 t2 ev sd).toArray] w fun e w' => e = .returned (.int .i64 1) ∧ Ext w w' := by
 have HF := hid_ (fun W g (hb : Blk W g 47 (fileL wd hi pt qs t1 t2 ev sd).toArray) => fileB hb hq h1 h2)
 have W1 := hid_ (fun W => fwithin_any wd 1 64 W)
 have W2 := hid_ (fun W => fwithin_any hi 1 64 W)
 have W3 := hid_ (fun W => fwithin_any ev 0 100 W)
 generalize (fileL wd hi pt qs t1 t2 ev sd).toArray = fv at *
 generalize inB wd 1 64 = b1 at *
 generalize inB hi 1 64 = b2 at *
 generalize inB ev 0 100 = b3 at *
 subst k1 k2
 go_enter Tryz.func50, Tryz.ntmps50
 go_wp2_with (first
  | (refine wBox rfl 47 (.tmp 0) rfl fv rfl ?_; intro w1 g hb1 hx1 hg; obtain ⟨c0, c1, c2, -, -, -, -, c101, -⟩ := HF.out _ _ hb1)
  | (go_at_call 108; (with_reducible refine (W1.out _).mono ?_); rintro e w2 ⟨rfl, rfl⟩)
  | (go_at_call 108; (with_reducible refine (W2.out _).mono ?_); rintro e w2 ⟨rfl, rfl⟩)
  | (go_at_call 108; (with_reducible refine (W3.out _).mono ?_); rintro e w2 ⟨rfl, rfl⟩))
 go_ret
 exact ⟨rfl, hx1⟩
set_option maxRecDepth 20000 in
set_option maxHeartbeats 4000000 in
theorem fcheck_nd (wd hi ev : Int) (qs : List Int) (t1 t2 : List Value) (sd : Value) (w : World) (hq : qs.length = 64) (h1 : t1.length = 17) (h2 : t2.length = 17) (k1 : inB wd 1 64 = true) (k2 : inB hi 1 64 = true) (k3 : inB ev 0 100 = false) :
 Calls Tryz.prog 50 #[.agg (fileL wd hi 1 qs t1 t2 ev sd).toArray] w fun e w' => e = .returned (.int .i64 1) ∧ Ext w w' := by
 have HF := hid_ (fun W g (hb : Blk W g 47 (fileL wd hi 1 qs t1 t2 ev sd).toArray) => fileB hb hq h1 h2)
 have W1 := hid_ (fun W => fwithin_any wd 1 64 W)
 have W2 := hid_ (fun W => fwithin_any hi 1 64 W)
 have W3 := hid_ (fun W => fwithin_any ev 0 100 W)
 generalize (fileL wd hi 1 qs t1 t2 ev sd).toArray = fv at *
 generalize inB wd 1 64 = b1 at *
 generalize inB hi 1 64 = b2 at *
 generalize inB ev 0 100 = b3 at *
 subst k1 k2 k3
 go_enter Tryz.func50, Tryz.ntmps50
 go_wp2_with (first
  | (refine wBox rfl 47 (.tmp 0) rfl fv rfl ?_; intro w1 g hb1 hx1 hg; obtain ⟨c0, c1, c2, -, -, -, -, c101, -⟩ := HF.out _ _ hb1)
  | (go_at_call 108; (with_reducible refine (W1.out _).mono ?_); rintro e w2 ⟨rfl, rfl⟩)
  | (go_at_call 108; (with_reducible refine (W2.out _).mono ?_); rintro e w2 ⟨rfl, rfl⟩)
  | (go_at_call 108; (with_reducible refine (W3.out _).mono ?_); rintro e w2 ⟨rfl, rfl⟩))
 go_ret
 exact ⟨rfl, hx1⟩
set_option maxRecDepth 20000 in
set_option maxHeartbeats 4000000 in
theorem fcheck_ne (wd hi ev : Int) (qs : List Int) (t1 t2 : List Value) (sd : Value) (w : World) (hq : qs.length = 64) (h1 : t1.length = 17) (h2 : t2.length = 17) (k1 : inB wd 1 64 = true) (k2 : inB hi 1 64 = true) (k3 : inB ev 0 100 = false) :
 Calls Tryz.prog 50 #[.agg (fileL wd hi 3 qs t1 t2 ev sd).toArray] w fun e w' => e = .returned (.int .i64 1) ∧ Ext w w' := by
 have HF := hid_ (fun W g (hb : Blk W g 47 (fileL wd hi 3 qs t1 t2 ev sd).toArray) => fileB hb hq h1 h2)
 have W1 := hid_ (fun W => fwithin_any wd 1 64 W)
 have W2 := hid_ (fun W => fwithin_any hi 1 64 W)
 have W3 := hid_ (fun W => fwithin_any ev 0 100 W)
 generalize (fileL wd hi 3 qs t1 t2 ev sd).toArray = fv at *
 generalize inB wd 1 64 = b1 at *
 generalize inB hi 1 64 = b2 at *
 generalize inB ev 0 100 = b3 at *
 subst k1 k2 k3
 go_enter Tryz.func50, Tryz.ntmps50
 go_wp2_with (first
  | (refine wBox rfl 47 (.tmp 0) rfl fv rfl ?_; intro w1 g hb1 hx1 hg; obtain ⟨c0, c1, c2, -, -, -, -, c101, -⟩ := HF.out _ _ hb1)
  | (go_at_call 108; (with_reducible refine (W1.out _).mono ?_); rintro e w2 ⟨rfl, rfl⟩)
  | (go_at_call 108; (with_reducible refine (W2.out _).mono ?_); rintro e w2 ⟨rfl, rfl⟩)
  | (go_at_call 108; (with_reducible refine (W3.out _).mono ?_); rintro e w2 ⟨rfl, rfl⟩))
 go_ret
 exact ⟨rfl, hx1⟩
theorem fcheck_no (wd hi pt ev : Int) (qs : List Int) (t1 t2 : List Value) (sd : Value) (w : World) (hq : qs.length = 64) (h1 : t1.length = 17) (h2 : t2.length = 17) (h : argsOK wd hi pt ev = false) :
 Calls Tryz.prog 50 #[.agg (fileL wd hi pt qs t1 t2 ev sd).toArray] w fun e w' => e = .returned (.int .i64 1) ∧ Ext w w' := by
 unfold argsOK at h
 cases k1 : inB wd 1 64 with
 | false => exact fcheck_na wd hi pt ev qs t1 t2 sd w hq h1 h2 k1
 | true =>
   cases k2 : inB hi 1 64 with
   | false => exact fcheck_nb wd hi pt ev qs t1 t2 sd w hq h1 h2 k1 k2
   | true =>
     by_cases p1 : pt = 1
     ·subst p1
      cases k3 : inB ev 0 100 with
      | false => exact fcheck_nd wd hi ev qs t1 t2 sd w hq h1 h2 k1 k2 k3
      | true => rw [k1, k2, k3] at h; cases h
     ·by_cases p3 : pt = 3
      ·subst p3
       cases k3 : inB ev 0 100 with
       | false => exact fcheck_ne wd hi ev qs t1 t2 sd w hq h1 h2 k1 k2 k3
       | true => rw [k1, k2, k3] at h; cases h
      ·exact fcheck_nc wd hi pt ev qs t1 t2 sd w hq h1 h2 k1 k2 (by simpa using p1) (by simpa using p3)
def binS (n : Nat) : Nat → ByteArray
 | 0 => ⟨#[]⟩
 | k + 1 => Utf8.encode (48 + (((n / 2 ^ k) % 2 : Nat) : Int)) ++ binS n k
theorem digit_size (m : Nat) : (Utf8.encode (48 + ((m % 2 : Nat) : Int))).size = 1 := by
 rcases (show m % 2 = 0 ∨ m % 2 = 1 by omega) with h | h <;> rw [h] <;> decide
theorem binS_size (n k : Nat) : (binS n k).size = k := by
 induction k with
 | zero => rfl
 | succ k ih => unfold binS; rw [ByteArray.size_append, digit_size, ih]; omega
set_option maxHeartbeats 400000 in
theorem binary_any (width n : Nat) (w : World) (hw : width ≤ 1000) (hn : n ≤ 1000000000) :
 Calls Tryz.prog 134 #[.int .i64 (width : Int), .int .i64 (n : Int)] w fun e w' => e = .returned (.string (binS n width)) ∧ w = w' := by
 have HB := hid_ (binS_size n)
 have HN : Hid (∀ k, binS n (k + 1) = Utf8.encode (48 + (((n / 2 ^ k) % 2 : Nat) : Int)) ++ binS n k) := hid_ (fun k => rfl)
 go_enter Tryz.func134, Tryz.ntmps134
 go_wp2_with fail
 go_loop [1, 5, 7] (fun v s i => ∃ k m : Nat, k ≤ width ∧ m ≤ 1000000000 ∧ m = n / 2 ^ k ∧ i = .int .i64 (k : Int) ∧ v = .int .i64 (m : Int) ∧ s = .string (binS n k)) (fun _ _ i => width - (intOf i).toNat)
 case atStart => exact ⟨0, n, by omega, hn, by simp, rfl, rfl, rfl⟩
 case round =>
  obtain ⟨k, m, hk, hm, hmn, rfl, rfl, rfl⟩ := hrel
  have HM := hid_ hmn
  clear hmn
  by_cases hlt : k < width
  ·have hd := digit_size m
   have hbs := HB.out k
   have HNK := hid_ (HN.out k)
   rw [← HM.out] at HNK
   have em : ((m % 2 : Nat) : Int) = (m : Int) % 2 := by omega
   rw [em] at hd HNK
   clear em
   generalize binS n k = b at *
   generalize hu : Utf8.encode (48 + (m : Int) % 2) = u at *
   have hlim : ¬ 9223372036854775807 < u.size + b.size := by omega
   go_wp2_with fail
   go_round
   case rel => exact ⟨k + 1, m / 2, by omega, by omega, by rw [HM.out, Nat.div_div_eq_div_mul, Nat.pow_succ], by go_num, by simp, by rw [HNK.out]⟩
   case measure => simp [intOf]; omega
  ·obtain rfl : k = width := by omega
   go_wp2_with fail
   go_ret
   exact ⟨rfl, rfl⟩
end Go.Proofs.YtkggcjdlpendfaaGreatDoor
