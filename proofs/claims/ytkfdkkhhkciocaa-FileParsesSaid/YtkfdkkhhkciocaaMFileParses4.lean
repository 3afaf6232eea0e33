/- Contracts for the law FileParses, part 4: what the functions that it reaches answer, for all arguments that the theorems name. -/
import Derived.Test.YtkfdkkhhkciocaaMFileParses3
import Derived.Test.YtkfdkkhhkciocaaMFileParses1
import Derived.Great.Walk
/- file.reader: number. -/
namespace Go.Proofs.Ytkfdkkhhkciocaa
set_option linter.unusedVariables false
set_option linter.unusedSimpArgs false
open Go.RowKit
/-- a reader of these bytes; short or not -/
def PR (w : World) (gr : Nat) (rs : List Nat) (sh : Bool) : Prop :=
  ∃ (A : Option Addr) (c : Nat), Blk w gr 83 #[.slice A rs.length c, .bool sh] ∧ SL w 1 (.slice A rs.length c) rs.length (bytesV rs) ∧ (0 < rs.length → ∀ ad, A = some ad → ad.block < gr)
theorem PR.ext {w w' : World} {gr : Nat} {rs : List Nat} {sh : Bool} (h : PR w gr rs sh) (hx : Ext w w') : PR w' gr rs sh := by
  obtain ⟨A, c, h1, h2, h3⟩ := h
  exact ⟨A, c, h1.ext hx, h2.ext hx, h3⟩
theorem SL.upd1 {S : Nat → Prop} {w w' : World} {size n c : Nat} {A : Option Addr} {xs : List Value} (h : SL w size (.slice A n c) n xs) (hu : Upd S w w') (hS : 0 < n → ∀ ad, A = some ad → ¬ S ad.block) : SL w' size (.slice A n c) n xs := h.upd0 hu hS
theorem PR.upd {S : Nat → Prop} {w w' : World} {gr : Nat} {rs : List Nat} {sh : Bool} (h : PR w gr rs sh) (hu : Upd S w w') (hS : ∀ x, S x → gr < x) : PR w' gr rs sh := by
  obtain ⟨A, c, h1, h2, h3⟩ := h
  exact ⟨A, c, hu.blk h1 (fun e => by have := hS _ e; omega), h2.upd0 hu (fun h0 ad e hx => by have := hS _ hx; have := h3 h0 ad e; omega), h3⟩
theorem PR.flag {w : World} {gr : Nat} {rs : List Nat} {sh : Bool} (h : PR w gr rs sh) : w.cell? ⟨gr, 1, none⟩ = some (.bool sh) := by
  obtain ⟨A, c, h1, h2, h3⟩ := h
  exact h1.cell 1
theorem PR.lt {w : World} {gr : Nat} {rs : List Nat} {sh : Bool} (h : PR w gr rs sh) : gr < w.heap.size := by
  obtain ⟨A, c, h1, h2, h3⟩ := h
  exact h1.lt
theorem sizeU8 : (Try.prog.info? 5).map (·.size) = some 1 := by kernel_rfl
set_option maxRecDepth 20000 in
set_option maxHeartbeats 1000000 in
theorem number_nil (gr : Nat) (A : Option Addr) (c : Nat) (sh : Bool) (w : World) (hB : Blk w gr 83 #[.slice A 0 c, .bool sh]) :
    Calls Try.prog 35 #[.pointer (some ⟨gr, 0, none⟩)] w fun e w' => e = .returned (.int .i64 0) ∧ Blk w' gr 83 #[.slice A 0 c, .bool true] ∧ Upd (fun b => b = gr) w w' := by
  have hc0 : w.cell? ⟨gr, 0, none⟩ = some (.slice A 0 c) := hB.cell 0
  have hc1 : w.cell? ⟨gr, 1, none⟩ = some (.bool sh) := hB.cell 1
  have hf1 := hB.frozen 1
  have hset := hB.set_ 1 (.bool true)
  have hu := (Upd.refl (fun b => b = gr) w).setCell (p := ⟨gr, 1, none⟩) rfl (.bool true)
  go_enter Try.func35, Try.ntmps35
  go_wp2
  go_ret
  exact ⟨rfl, hset, hu⟩
set_option maxRecDepth 20000 in
set_option maxHeartbeats 1000000 in
theorem number_cons (gr : Nat) (A : Option Addr) (c b : Nat) (rs : List Nat) (sh : Bool) (w : World) (hb : b < 256) (hB : Blk w gr 83 #[.slice A (rs.length + 1) c, .bool sh]) (hs : SL w 1 (.slice A (rs.length + 1) c) (rs.length + 1) (bytesV (b :: rs))) (X : Option Addr) (hX : Hid (X = if c = 1 then A else A.map (·.add 1))) :
    Calls Try.prog 35 #[.pointer (some ⟨gr, 0, none⟩)] w fun e w' => e = .returned (.int .i64 (b : Int)) ∧ Blk w' gr 83 #[.slice X rs.length (c - 1), .bool sh] ∧ Upd (fun b => b = gr) w w' := by
  obtain ⟨ad, u, rfl, hlt, hu0, hcl⟩ := hs.at1 (k := 0) (by omega)
  have hub : u = .int .u8 (b : Int) := by simpa [bytesV] using hu0.symm
  subst hub
  obtain ⟨A', c', he, hcap, hcap2, -, -⟩ := hs
  injection he with e1 e2 e3
  subst e1 e3
  have hc0 : w.cell? ⟨gr, 0, none⟩ = some (.slice (some ad) (rs.length + 1) c) := hB.cell 0
  have hc1 : w.cell? ⟨gr, 1, none⟩ = some (.bool sh) := hB.cell 1
  have hf0 := hB.frozen 0
  have hset := hB.set_ 0 (.slice X rs.length (c - 1))
  have hu := (Upd.refl (fun b => b = gr) w).setCell (p := ⟨gr, 0, none⟩) rfl (.slice X rs.length (c - 1))
  have HB := hid_ hB
  clear hB
  generalize rs.length = n at *
  have HSL : Hid (∀ (o : Oper) (a : Act) (x lo : Operand), o.op = .slice 38 x (some lo) none none → a.eval x = .slice (some ad) (n + 1) c → a.eval lo = .int .i64 1 → ∀ W, (execOp a.eval o).run Try.prog W = .ok (.value (.slice X n (c - 1))) W) := hid_ (fun o a x lo h1 h2 h3 W => by
    have := ex_sliceF (l := 1) h1 h2 h3 (by omega) hcap W
    rw [hX.out]
    exact this)
  clear hX
  go_enter Try.func35, Try.ntmps35
  go_wp2_with (first
    | (show wpList _ _ _ (⟨some 9, _, _, _, _, _⟩ :: _) _ _; refine wl_run rfl (.bool false) (ex_eql rfl rfl rfl (by simp; omega)) ?_)
    | (show wpList _ _ _ (⟨some 17, _, _, _, _, _⟩ :: _) _ _; refine wl_run rfl (.pointer (some (ad.add (0 * 1)))) (ex_ixSl (i := 0) Try.underlying38 sizeU8 rfl rfl rfl (by omega)) ?_)
    | (show wpList _ _ _ (⟨some 18, _, _, _, _, _⟩ :: _) _ _; refine wl_read rfl (.int .u8 (b : Int)) (ex_loadU rfl rfl hcl) ?_)
    | (show wpList _ _ _ (⟨some 19, _, _, _, _, _⟩ :: _) _ _; refine wl_run rfl (.int .i64 (b : Int)) (ex_conv rfl rfl (run_conv8 b hb)) ?_)
    | (show wpList _ _ _ (⟨some 25, _, _, _, _, _⟩ :: _) _ _; refine wl_run rfl (.slice X n (c - 1)) (HSL.out _ _ _ _ rfl rfl rfl) ?_))
  go_ret
  exact ⟨rfl, hset, hu⟩
theorem number_any (gr : Nat) (rs : List Nat) (sh : Bool) (w : World) (hlt : ∀ b ∈ rs, b < 256) (h : PR w gr rs sh) :
    Calls Try.prog 35 #[.pointer (some ⟨gr, 0, none⟩)] w fun e w' => e = .returned (.int .i64 ((rs.headD 0 : Nat) : Int)) ∧ PR w' gr rs.tail (sh || rs.isEmpty) ∧ Upd (fun b => b = gr) w w' := by
  obtain ⟨A, c, hB, hs, hne⟩ := h
  cases rs with
  | nil =>
    refine (number_nil gr A c sh w hB).mono ?_
    rintro e w' ⟨rfl, h1, h2⟩
    obtain ⟨A', c', he, hcap, hcap2, -, -⟩ := hs
    injection he with e1 e2 e3
    subst e3
    refine ⟨rfl, ⟨A, c, by simpa using h1, ⟨A, c, rfl, hcap, hcap2, rfl, fun h => by simp at h⟩, fun h => by simp at h⟩, h2⟩
  | cons b rs =>
    refine (number_cons gr A c b rs sh w (hlt b (by simp)) hB hs _ (hid_ rfl)).mono ?_
    rintro e w' ⟨rfl, h1, h2⟩
    have hs2 := hs.sub (l := 1) (h := rs.length + 1) (by omega) (by simp)
    have e2 : ((bytesV (b :: rs)).drop 1).take (rs.length + 1 - 1) = bytesV rs := by simp [bytesV, List.take_of_length_le]
    rw [e2, Nat.add_sub_cancel] at hs2
    have hblk : 0 < rs.length → ∀ ad, (if c = 1 then A else A.map (·.add 1)) = some ad → ad.block < gr := fun h0 ad e => by
      split at e
      · exact hne (by simp) ad e
      · cases A with
        | none => cases e
        | some a0 =>
          injection e with e
          subst e
          rw [block_of_add]
          exact hne (by simp) a0 rfl
    refine ⟨rfl, ⟨_, _, by simpa using h1, hs2.upd0 h2 (fun h0 ad e => Nat.ne_of_lt (hblk h0 ad e)), hblk⟩, h2⟩
end Go.Proofs.Ytkfdkkhhkciocaa
/- A region that draws its order and does things to memory: what is fixed may come first; of the others each that may come up is walked. -/
namespace Go.Proofs.Ytkfdkkhhkciocaa
set_option linter.unusedVariables false
set_option linter.unusedSimpArgs false
open Go.RowKit
section
variable {P : Program} {ops : Array Oper} {md : Region.Mode} {I : World → Prop}
/-- operation i is fixed: it yields v in every world that keeps I -/
def Fixed (P : Program) (ops : Array Oper) (I : World → Prop) (o : Oper) (v : Value) (a : Act) : Prop :=
  (Region.wanted o (yielded ops a.tmps) = true ∧ ∀ w, I w → (execOp a.eval o).run P w = .ok (.value v) w) ∨ (Region.wanted o (yielded ops a.tmps) = false ∧ v = undef)
theorem Fixed.of_same {o : Oper} {v : Value} {a a' : Act} (hy : Fixed P ops I o v a) (he : execOp a'.eval o = execOp a.eval o)
    (hw : Region.wanted o (yielded ops a'.tmps) = Region.wanted o (yielded ops a.tmps)) : Fixed P ops I o v a' := by
  unfold Fixed at *
  rw [he, hw]
  exact hy
theorem Fixed.wpOp {i : Nat} {o : Oper} {v : Value} {a : Act} {w : World} {Q : Exit → Act → World → Prop} (hi : ops[i]? = some o) (hy : Fixed P ops I o v a) (hw : I w)
    {K : Act → World → Prop} (h : K (a.put o.dst v) w) : wpOp P ops Q i K a w := by
  unfold Go.wpOp
  simp only [hi]
  rcases hy with ⟨h1, h2⟩ | ⟨h1, rfl⟩
  · simp only [h1, if_true]
    refine .inl ?_
    unfold Oper.wp
    rw [h2 w hw]
    exact h
  · simp only [h1, Bool.false_eq_true, if_false]
    exact h
theorem wpOp_putI {j : Nat} {oi oj : Oper} {v : Value} {Q : Exit → Act → World → Prop} (hj : ops[j]? = some oj) (hap : oi.apart ops oj = true)
    (hsi : ∀ cs b, oi.op ≠ .select cs b) (hsj : ∀ cs b, oj.op ≠ .select cs b)
    (hQ : ∀ c a w, Q (.panic c) (a.put oi.dst v) w → Q (.panic c) a w) {K : Act → World → Prop} {a : Act} {w : World}
    (hy : Fixed P ops I oi v a) (h : wpOp P ops Q j K (a.put oi.dst v) w) :
    wpOp P ops Q j (fun a' w' => Fixed P ops I oi v a' ∧ K (a'.put oi.dst v) w') a w := by
  obtain ⟨h1, h2, h3⟩ := Oper.apart_spec hap
  have keep : ∀ (a : Act), Fixed P ops I oi v a → ∀ u, Fixed P ops I oi v (a.put oj.dst u) := fun a hy u =>
    hy.of_same (execOp_put oi hsi a oj.dst u h3) (wanted_put oi a oj.dst u h3)
  have keepD : ∀ d, Fixed P ops I oi v { a with defers := d :: a.defers } := fun d => hy.of_same rfl rfl
  unfold wpOp at *
  simp only [hj] at *
  rw [wanted_put oj a oi.dst v h1] at h
  split
  · rename_i hw
    simp only [hw, if_true] at h
    rcases h with h | ⟨hasks, hlets⟩
    case inr => exact .inr ⟨by unfold Oper.asks at *; rw [execOp_put oj hsj a oi.dst v h1] at hasks; exact hasks, hlets⟩
    refine .inl ?_
    unfold Oper.wp at *
    rw [execOp_put oj hsj a oi.dst v h1] at h
    generalize (execOp a.eval oj).run P w = r at *
    cases r with
    | ok n w' =>
      cases n <;> simp only [Oper.upon] at h ⊢
      case value u => exact ⟨keep a hy u, by rw [← Act.put_comm a v u h2]; exact h⟩
      case skip => exact ⟨keep a hy _, by rw [← Act.put_comm a v undef h2]; exact h⟩
      case defer d =>
        refine ⟨keep _ (keepD d) _, ?_⟩
        rw [← Act.put_comm _ v undef h2, ← Act.put_defers]
        exact h
      case enter f args =>
        refine Calls.mono h fun e w'' he => ?_
        cases e with
        | returned u => exact ⟨keep a hy u, by rw [← Act.put_comm a v u h2]; exact he⟩
        | panicked c => exact hQ _ _ _ he
        | outgrown => exact he
      case row row args => exact Rows.mono h fun u w'' he => ⟨keep a hy u, by rw [← Act.put_comm a v u h2]; exact he⟩
    | halt x w' =>
      cases x <;> simp only [Oper.upon] at h ⊢
      case panic u => exact hQ _ _ _ h
  · rename_i hw
    simp only [hw] at h
    exact ⟨keep a hy _, by rw [← Act.put_comm a v undef h2]; exact h⟩
/-- whatever order is picked from here on; I is kept -/
def wpAnyI (P : Program) (md : Region.Mode) (ops : Array Oper) (I : World → Prop) (QN : Act → World → Prop) : Nat → Array Bool → Act → World → Prop
  | 0, listed, a, w => Region.ready md ops listed = [] ∧ QN a w
  | f + 1, listed, a, w => (Region.ready md ops listed = [] → QN a w) ∧
    ∀ i ∈ Region.ready md ops listed, wpOp P ops (onlyN QN) i (fun a' w' => I w' ∧ wpAnyI P md ops I QN f (listed.setIfInBounds i true) a' w') a w
variable {QN : Act → World → Prop}
theorem wpAny_of_I : ∀ (f : Nat) (listed : Array Bool) (a : Act) (w : World), wpAnyI P md ops I QN f listed a w → wpAny P md ops (onlyN QN) f listed a w
  | 0, _, _, _, h => ⟨h.1, h.2⟩
  | f + 1, _, _, _, h => ⟨fun h0 => h.1 h0, fun i hi => wpOp_mono (fun a' w' h' => wpAny_of_I f _ a' w' h'.2) (h.2 i hi)⟩
theorem wpAnyI_first {i : Nat} {oi : Oper} {v : Value} (hi : ops[i]? = some oi) (hsel : ∀ (j : Nat) (o : Oper) cs b, ops[j]? = some o → o.op ≠ .select cs b) :
    ∀ (fuel : Nat) (listed : Array Bool) (a : Act) (w : World),
      (∀ j oj, ops[j]? = some oj → j ≠ i → listed.getD j true = false → (∀ e ∈ oj.after, Region.binds md e = true → e.on ≠ i) → oi.apart ops oj = true) →
      i ∈ Region.ready md ops listed → Fixed P ops I oi v a → I w →
      wpAnyI P md ops I QN fuel (listed.setIfInBounds i true) (a.put oi.dst v) w → wpAnyI P md ops I QN (fuel + 1) listed a w := by
  intro fuel
  induction fuel with
  | zero =>
    intro listed a w _ hr hy hI H
    refine ⟨fun h => (by rw [h] at hr; cases hr), fun j hj => ?_⟩
    by_cases hji : j = i
    · subst hji; exact hy.wpOp hi hI ⟨hI, H⟩
    · have := ready_mono hj hji
      rw [H.1] at this
      cases this
  | succ fuel ih =>
    intro listed a w hfree hr hy hI H
    refine ⟨fun h => (by rw [h] at hr; cases hr), fun j hj => ?_⟩
    by_cases hji : j = i
    · subst hji; exact hy.wpOp hi hI ⟨hI, H⟩
    · have h1 := H.2 j (ready_mono hj hji)
      obtain ⟨hjun, oj, hoj, hall⟩ := mem_ready.1 hj
      have hnot : ∀ e ∈ oj.after, Region.binds md e = true → e.on ≠ i := fun e he hb heq => by
        have h1 := hall e he hb
        have h0 := (mem_ready.1 hr).1
        rw [heq] at h1
        rcases Nat.lt_or_ge i listed.size with h' | h'
        · simp [h'] at h0 h1; rw [h0] at h1; cases h1
        · simp [Array.getElem?_eq_none h'] at h1
      have h2 := wpOp_putI hoj (hfree j oj hoj hji hjun hnot) (fun cs b => hsel i oi cs b hi) (fun cs b => hsel j oj cs b hoj) (fun _ _ _ h => h) hy h1
      have hfree' : ∀ k ok, ops[k]? = some ok → k ≠ i → (listed.setIfInBounds j true).getD k true = false →
          (∀ e ∈ ok.after, Region.binds md e = true → e.on ≠ i) → oi.apart ops ok = true := fun k ok hk hki hun hno => by
        refine hfree k ok hk hki ?_ hno
        by_cases hjk : j = k
        · subst hjk; exact hjun
        · rw [getD_set_ne true hjk] at hun; exact hun
      refine wpOp_mono (fun a' w' h3 => ⟨h3.2.1, ih (listed.setIfInBounds j true) a' w' hfree' (ready_mono hr (Ne.symm hji)) h3.1 h3.2.1 ?_⟩) h2
      rw [Array.setIfInBounds_comm _ _ hji]
      exact h3.2.2
/-- one operation alone, walked as a list of one -/
theorem wpOp_of_list {i : Nat} {o : Oper} {K : Act → World → Prop} {Q : Exit → Act → World → Prop} {a : Act} {w : World} (ho : ops[i]? = some o) (h : wpList P ops (onlyN K) [o] a w) : wpOp P ops Q i K a w := by
  refine wpOp_exit (QN := K) ?_
  unfold wpOp
  simp only [ho]
  exact h
theorem oi_loud0 {k f : Nat} {o : Oper} {listed : Array Bool} {a : Act} {w : World} (hone : Region.ready md ops listed = [k]) (ho : ops[k]? = some o)
    (h : wpList P ops (onlyN fun a' w' => I w' ∧ wpAnyI P md ops I QN f (listed.setIfInBounds k true) a' w') [o] a w) : wpAnyI P md ops I QN (f + 1) listed a w :=
  ⟨fun h0 => (by rw [h0] at hone; cases hone), fun i hi => by
    rw [hone] at hi
    have hik : i = k := by simpa using hi
    subst hik
    exact wpOp_of_list ho h⟩
theorem oi_two0 {k l f : Nat} {o o2 : Oper} {listed : Array Bool} {a : Act} {w : World} (hone : Region.ready md ops listed = [k, l]) (ho : ops[k]? = some o) (ho2 : ops[l]? = some o2)
    (h : wpList P ops (onlyN fun a' w' => I w' ∧ wpAnyI P md ops I QN f (listed.setIfInBounds k true) a' w') [o] a w)
    (h2 : wpList P ops (onlyN fun a' w' => I w' ∧ wpAnyI P md ops I QN f (listed.setIfInBounds l true) a' w') [o2] a w) : wpAnyI P md ops I QN (f + 1) listed a w :=
  ⟨fun h0 => (by rw [h0] at hone; cases hone), fun i hi => by
    rw [hone] at hi
    have hik : i = k ∨ i = l := by simpa using hi
    rcases hik with rfl | rfl
    · exact wpOp_of_list ho h
    · exact wpOp_of_list ho2 h2⟩
theorem oi_fix0 {k f : Nat} {o : Oper} {listed : Array Bool} {a : Act} {w : World} (hB : ((Region.ready md ops listed).contains k && Region.free md ops listed k && Region.noSelect ops) = true) (ho : ops[k]? = some o)
    (hw : Region.wanted o (yielded ops a.tmps) = true) (v : Value) (h1 : ∀ w, I w → (execOp a.eval o).run P w = .ok (.value v) w) (hI : I w)
    (h : wpAnyI P md ops I QN f (listed.setIfInBounds k true) (a.put o.dst v) w) : wpAnyI P md ops I QN (f + 1) listed a w := by
  simp only [Bool.and_eq_true] at hB
  exact wpAnyI_first ho (Region.noSelect_spec hB.2) f listed a w (Region.free_spec ho hB.1.2) (by simpa using hB.1.1) (.inl ⟨hw, h1⟩) hI h
section
variable {l0 : List Oper}
theorem oi_fix {k f : Nat} {o : Oper} {listed : Array Bool} {a : Act} {w : World} (hB : ((Region.ready md l0.toArray listed).contains k && Region.free md l0.toArray listed k && Region.noSelect l0.toArray) = true) (ho : l0[k]? = some o)
    (hw : Region.wanted o (yielded l0.toArray a.tmps) = true) (v : Value) (h1 : ∀ w, I w → (execOp a.eval o).run P w = .ok (.value v) w) (hI : I w)
    (h : wpAnyI P md l0.toArray I QN f (listed.setIfInBounds k true) (a.put o.dst v) w) : wpAnyI P md l0.toArray I QN (f + 1) listed a w := oi_fix0 hB (by simpa using ho) hw v h1 hI h
theorem oi_run {k f : Nat} {o : Oper} {listed : Array Bool} {a : Act} {w : World} (hB : ((Region.ready md l0.toArray listed).contains k && Region.free md l0.toArray listed k && Region.noSelect l0.toArray) = true) (ho : l0[k]? = some o)
    (hw : Region.wanted o (yielded l0.toArray a.tmps) = true) (v : Value) (h1 : ∀ w, (execOp a.eval o).run P w = .ok (.value v) w) (hI : I w)
    (h : wpAnyI P md l0.toArray I QN f (listed.setIfInBounds k true) (a.put o.dst v) w) : wpAnyI P md l0.toArray I QN (f + 1) listed a w := oi_fix hB ho hw v (fun w _ => h1 w) hI h
theorem oi_loud {k f : Nat} {o : Oper} {listed : Array Bool} {a : Act} {w : World} (hone : Region.ready md l0.toArray listed = [k]) (ho : l0[k]? = some o)
    (h : wpList P l0.toArray (onlyN fun a' w' => I w' ∧ wpAnyI P md l0.toArray I QN f (listed.setIfInBounds k true) a' w') [o] a w) : wpAnyI P md l0.toArray I QN (f + 1) listed a w := oi_loud0 hone (by simpa using ho) h
theorem oi_two {k l f : Nat} {o o2 : Oper} {listed : Array Bool} {a : Act} {w : World} (hone : Region.ready md l0.toArray listed = [k, l]) (ho : l0[k]? = some o) (ho2 : l0[l]? = some o2)
    (h : wpList P l0.toArray (onlyN fun a' w' => I w' ∧ wpAnyI P md l0.toArray I QN f (listed.setIfInBounds k true) a' w') [o] a w)
    (h2 : wpList P l0.toArray (onlyN fun a' w' => I w' ∧ wpAnyI P md l0.toArray I QN f (listed.setIfInBounds l true) a' w') [o2] a w) : wpAnyI P md l0.toArray I QN (f + 1) listed a w := oi_two0 hone (by simpa using ho) (by simpa using ho2) h h2
end
theorem wp_region_oi (I : World → Prop) {id : Nat} {a : Act} {w : World} {l : List Oper} {Q : Exit → Act → World → Prop} (hm : P.follows .mixedOrders = true)
    (h : wpAnyI P .any l.toArray I (fun a w => Q .normal a w) l.length (Array.replicate l.length false) a w.drew) : (Code.region id l.toArray true).wp P Q a w := by
  refine Code.wp_mono (Q := onlyN (fun a w => Q .normal a w)) (fun e a w h => ?_) (wp_region_any hm (wpAny_of_I _ _ _ _ (by simpa using h)))
  cases e <;> first | exact h | exact (h : False).elim
theorem oi_done {listed : Array Bool} {a : Act} {w : World} (hone : Region.ready md ops listed = []) (h : QN a w) : wpAnyI P md ops I QN 0 listed a w := ⟨hone, h⟩
end
end Go.Proofs.Ytkfdkkhhkciocaa
/- A slice literal of one element of many cells: append(out, b). -/
namespace Go.Proofs.Ytkfdkkhhkciocaa
set_option linter.unusedVariables false
set_option linter.unusedSimpArgs false
open Go.RowKit
theorem fold_set (l : List Value) : ∀ (k : Nat) (a : Array Value), a.size = k + l.length → (l.zipIdx k).foldl (fun cs (p : Value × Nat) => cs.setIfInBounds (0 + p.2) p.1) a = (a.toList.take k ++ l).toArray := by
  induction l with
  | nil =>
    intro k a h
    simp at h
    apply Array.ext'
    simp [List.take_of_length_le, h]
  | cons v l ih =>
    intro k a h
    rw [List.zipIdx_cons, List.foldl_cons, ih (k + 1) _ (by simp at h ⊢; omega)]
    apply Array.ext'
    simp only [Nat.zero_add, Array.toList_setIfInBounds]
    have hk : k < a.toList.length := by simp at h ⊢; omega
    rw [List.take_add_one, List.take_set_of_le (by omega), List.getElem?_set_self hk]
    simp
theorem fill_one (v : Value) (n : Nat) (a : Array Value) (hv : v.cells.size = n) (ha : a.size = n) : Instr.fill (fun i => some (i * n, n)) a [(0, v)] = some v.cells := by
  have e : v.cells.zipIdx.foldl (fun cs (p : Value × Nat) => cs.setIfInBounds (0 + p.2) p.1) a = v.cells := by
    have h := fold_set v.cells.toList 0 a (by simp; omega)
    rw [← Array.foldl_toList]
    simpa using h
  simp only [Nat.zero_add] at e
  have e2 : Array.foldl (fun cs (x : Value × Nat) => cs.setIfInBounds x.2 x.1) a v.cells.zipIdx 0 n = v.cells := by
    have hn : n = v.cells.zipIdx.size := by simp [hv]
    rw [hn]
    exact e
  simp [Instr.fill, hv, ha, e2]
theorem builtSlice_one {P : Program} {e : TypeId} {n : Nat} (v : Value) (hs : (P.info? e).map (·.size) = some n) (hz : ((P.info? e).bind (·.zero)).isSome = true) (hv : v.cells.size = n) (h0 : 0 < n) (h1 : n ≤ 16777216) : P.builtSlice e 1 [(0, v)] = some v.cells := by
  unfold Program.builtSlice
  cases hq : P.info? e with
  | none => simp [hq] at hs
  | some i =>
    have hi : i.size = n := by simpa [hq] using hs
    cases hzz : i.zero with
    | none => simp [hq, hzz] at hz
    | some z =>
      simp only [hi, hzz, Nat.one_mul]
      rw [if_neg (by omega)]
      exact fill_one v n _ hv (by simp)
theorem wpList_lit1 {P : Program} {ops : Array Oper} {rest : List Oper} {o : Oper} {a : Act} {w : World} {Q : Exit → Act → World → Prop} (hg : o.guard = none) (t e : TypeId) (x : Operand) (ho : o.op = .buildSlice t 1 #[(0, x)]) (dst : Option Tmp) (hdst : o.dst = dst)
    (ht : P.underlying t = some (.slice e)) (n : Nat) (hs : (P.info? e).map (·.size) = some n) (hz : ((P.info? e).bind (·.zero)).isSome = true) (v : Value) (hx : a.eval x = v) (hv : v.cells.size = n) (h0 : 0 < n) (h1 : n ≤ 16777216)
    (h : ∀ w1 g, Blk w1 g e v.cells → Ext w w1 → w.heap.size ≤ g → wpList P ops Q rest (a.put dst (.slice (some ⟨g, 0, none⟩) 1 1)) w1) : wpList P ops Q (o :: rest) a w := by
  refine Go.Great.wpList_buildSliceTo hg t e 1 #[(0, x)] ho _ rfl dst hdst ht v.cells ?_ (h _ _ (Blk.new w e _) ((Ext.refl w).alloc _) (Nat.le_refl _))
  simp only [List.map_toArray, List.map_cons, List.map_nil, hx]
  exact builtSlice_one v hs hz hv h0 h1
theorem own_keep {w w' : World} {base : Nat} {e : TypeId} {size n : Nat} {v : Value} {xs : List Value} (h : w.ownsRow base e size v n xs) (hb : Ext w w') : w'.ownsRow base e size v n xs := by
  obtain ⟨hl, hh⟩ := h
  refine ⟨hl, ?_⟩
  rcases hh with ⟨rfl, rfl⟩ | ⟨g, cap, cur, rfl, h1, hg, h2⟩
  · exact .inl ⟨rfl, rfl⟩
  · exact .inr ⟨g, cap, cur, rfl, h1, (hb.block g (Blk.lt (w := w) (t := e) (cs := cur) hg)).trans hg, h2⟩
theorem own_nil (w : World) (base : Nat) (e : TypeId) (size : Nat) : w.ownsRow base e size (.slice none 0 0) 0 [] := ⟨by simp, .inl ⟨rfl, rfl⟩⟩
theorem ints_one_mem (zs : List Int) : ∀ u ∈ ints zs, u.oneCell' = true := by
  intro u hu
  obtain ⟨z, -, rfl⟩ := List.mem_map.1 hu
  rfl
theorem ints_app (xs ys : List Int) : ints (xs ++ ys) = ints xs ++ ints ys := by simp [ints]
end Go.Proofs.Ytkfdkkhhkciocaa
/- Two owned rows that grow side by side, each by a slice literal of one element: for drawn regions with two appends (XOrders). -/
namespace Go.Proofs.Ytkfdkkhhkciocaa
set_option linter.unusedVariables false
set_option linter.unusedSimpArgs false
open Go.RowKit
theorem own_upd2 {S : Nat → Prop} {w w' : World} {base : Nat} {e : TypeId} {size n : Nat} {v : Value} {xs : List Value} (h : w.ownsRow base e size v n xs) (hu : Upd S w w') (hS : ∀ x, v.ownBlock = some x → ¬ S x) : w'.ownsRow base e size v n xs := by
  obtain ⟨hl, hh⟩ := h
  refine ⟨hl, ?_⟩
  rcases hh with ⟨rfl, rfl⟩ | ⟨g, cap, cur, rfl, h1, hg, h2⟩
  · exact .inl ⟨rfl, rfl⟩
  · exact .inr ⟨g, cap, cur, rfl, h1, (hu.block g (Blk.lt (w := w) (t := e) (cs := cur) hg) (hS g rfl)).trans hg, h2⟩
theorem upd_grown {w w' : World} {row : Option Nat} (hg : w.grownBy w' row) : Upd (fun b => row = some b) w w' :=
  (Upd.refl (fun b => row = some b) w).grown hg (fun b hb => .inl hb)
/-- a block of one cell, apart from the rows -/
def Apart (w : World) (e : TypeId) (v : Value) (g : Nat) (r1 r2 : Option Nat) : Prop := Blk w g e #[v] ∧ r1 ≠ some g ∧ r2 ≠ some g
structure Two (w0 w : World) (B : Nat) (e1 e2 : TypeId) (v1 v2 : Value) (n1 n2 : Nat) (xs1 xs2 : List Value) (t1 t2 : Option (Value × Nat)) : Prop where
  ext : Ext w0 w
  base : w0.heap.size ≤ B ∧ B ≤ w.heap.size
  p : w.ownsRow B e1 1 v1 n1 xs1
  m : w.ownsRow B e2 1 v2 n2 xs2
  d : ∀ b, v1.ownBlock = some b → v2.ownBlock ≠ some b
  a1 : ∀ v g, t1 = some (v, g) → Apart w e1 v g v1.ownBlock v2.ownBlock
  a2 : ∀ v g, t2 = some (v, g) → Apart w e2 v g v1.ownBlock v2.ownBlock
section
variable {w0 w w' : World} {B : Nat} {e1 e2 : TypeId} {v1 v2 v1' v2' : Value} {n1 n2 m1 m2 : Nat} {xs1 xs2 ys1 ys2 : List Value} {t1 t2 : Option (Value × Nat)}
theorem Two.later (h : Two w0 w B e1 e2 v1 v2 n1 n2 xs1 xs2 t1 t2) (hx : Ext w w') : Two w0 w' B e1 e2 v1 v2 n1 n2 xs1 xs2 t1 t2 :=
  ⟨h.ext.trans hx, ⟨h.base.1, Nat.le_trans h.base.2 hx.size⟩, own_keep h.p hx, own_keep h.m hx, h.d, fun v g e => by obtain ⟨a, b, c⟩ := h.a1 v g e; exact ⟨a.ext hx, b, c⟩, fun v g e => by obtain ⟨a, b, c⟩ := h.a2 v g e; exact ⟨a.ext hx, b, c⟩⟩
theorem Two.fresh (h : Two w0 w B e1 e2 v1 v2 n1 n2 xs1 xs2 t1 t2) {g : Nat} (hg : w.heap.size ≤ g) : v1.ownBlock ≠ some g ∧ v2.ownBlock ≠ some g :=
  ⟨fun e => by have := (h.p.lt g e).2; omega, fun e => by have := (h.m.lt g e).2; omega⟩
theorem Two.lit1 (h : Two w0 w B e1 e2 v1 v2 n1 n2 xs1 xs2 t1 t2) {v : Value} {g : Nat} (hb : Blk w' g e1 #[v]) (hx : Ext w w') (hg : w.heap.size ≤ g) : Two w0 w' B e1 e2 v1 v2 n1 n2 xs1 xs2 (some (v, g)) t2 := by
  have k := h.later hx
  obtain ⟨f1, f2⟩ := h.fresh hg
  exact ⟨k.ext, k.base, k.p, k.m, k.d, fun u g' e => by injection e with e; injection e with e e'; subst e e'; exact ⟨hb, f1, f2⟩, k.a2⟩
theorem Two.lit2 (h : Two w0 w B e1 e2 v1 v2 n1 n2 xs1 xs2 t1 t2) {v : Value} {g : Nat} (hb : Blk w' g e2 #[v]) (hx : Ext w w') (hg : w.heap.size ≤ g) : Two w0 w' B e1 e2 v1 v2 n1 n2 xs1 xs2 t1 (some (v, g)) := by
  have k := h.later hx
  obtain ⟨f1, f2⟩ := h.fresh hg
  exact ⟨k.ext, k.base, k.p, k.m, k.d, k.a1, fun u g' e => by injection e with e; injection e with e e'; subst e e'; exact ⟨hb, f1, f2⟩⟩
theorem Apart.grown {e : TypeId} {v : Value} {g : Nat} {r r' r2 : Option Nat} (h : Apart w e v g r r2) (hg : w.grownBy w' r) (hr : r' = r ∨ r' = some w.heap.size) : Apart w' e v g r' r2 := by
  obtain ⟨hb, h1, h2⟩ := h
  refine ⟨(upd_grown hg).blk hb h1, ?_, h2⟩
  rcases hr with rfl | rfl
  · exact h1
  · intro e; injection e with e; have := hb.lt; omega
theorem Apart.swap {e : TypeId} {v : Value} {g : Nat} {r r2 : Option Nat} (h : Apart w e v g r r2) : Apart w e v g r2 r := ⟨h.1, h.2.2, h.2.1⟩
theorem Two.app1 (h : Two w0 w B e1 e2 v1 v2 n1 n2 xs1 xs2 t1 t2) (ho : w'.ownsRow B e1 1 v1' m1 ys1) (hg : w.grownBy w' v1.ownBlock) (hr : v1'.ownBlock = v1.ownBlock ∨ v1'.ownBlock = some w.heap.size) : Two w0 w' B e1 e2 v1' v2 m1 n2 ys1 xs2 none t2 := by
  have hu := upd_grown hg
  refine ⟨hu.ext h.ext (fun x hx => by have := (h.p.lt x hx).1; have := h.base.1; omega), ⟨h.base.1, Nat.le_trans h.base.2 hu.size⟩, ho, own_upd2 h.m hu (fun x hx e => h.d x e hx), fun b hb => ?_, fun _ _ e => (by cases e), fun v g e => (h.a2 v g e).grown hg hr⟩
  rcases hr with e | e
  · exact h.d b (e ▸ hb)
  · rw [e] at hb
    injection hb with hb
    intro e2
    have := (h.m.lt b e2).2
    omega
theorem Two.app2 (h : Two w0 w B e1 e2 v1 v2 n1 n2 xs1 xs2 t1 t2) (ho : w'.ownsRow B e2 1 v2' m2 ys2) (hg : w.grownBy w' v2.ownBlock) (hr : v2'.ownBlock = v2.ownBlock ∨ v2'.ownBlock = some w.heap.size) : Two w0 w' B e1 e2 v1 v2' n1 m2 xs1 ys2 t1 none := by
  have hu := upd_grown hg
  refine ⟨hu.ext h.ext (fun x hx => by have := (h.m.lt x hx).1; have := h.base.1; omega), ⟨h.base.1, Nat.le_trans h.base.2 hu.size⟩, own_upd2 h.p hu (fun x hx e => h.d x hx e), ho, fun b hb => ?_, fun v g e => ((h.a1 v g e).swap.grown hg hr).swap, fun _ _ e => (by cases e)⟩
  rcases hr with e | e
  · rw [e]; exact h.d b hb
  · rw [e]
    intro e2
    injection e2 with e2
    have := (h.p.lt b hb).2
    omega
theorem own_map2 (A : Option Addr) (n c : Nat) : (Value.slice A n c).ownBlock = A.map (·.block) := by cases A <;> rfl
theorem one_of {v : Value} (h : v.oneCell' = true) : ∀ u ∈ [v], u.oneCell' = true := by
  intro u hu
  simp at hu
  subst hu
  exact h
theorem oi_end {P : Program} {ops : Array Oper} {K : Act → World → Prop} {a : Act} {w : World} (h : K a w) : wpList P ops (onlyN K) [] a w := h
theorem Two.app1' {A : Option Addr} {c : Nat} (h : Two w0 w B e1 e2 v1 v2 n1 n2 xs1 xs2 t1 t2) (ho : w'.ownsRow B e1 1 (.slice A m1 c) m1 ys1) (hg : w.grownBy w' v1.ownBlock) (hr : A.map (·.block) = v1.ownBlock ∨ A.map (·.block) = some w.heap.size) : Two w0 w' B e1 e2 (.slice A m1 c) v2 m1 n2 ys1 xs2 none t2 :=
  h.app1 ho hg (by rw [own_map2]; exact hr)
theorem Two.app2' {A : Option Addr} {c : Nat} (h : Two w0 w B e1 e2 v1 v2 n1 n2 xs1 xs2 t1 t2) (ho : w'.ownsRow B e2 1 (.slice A m2 c) m2 ys2) (hg : w.grownBy w' v2.ownBlock) (hr : A.map (·.block) = v2.ownBlock ∨ A.map (·.block) = some w.heap.size) : Two w0 w' B e1 e2 v1 (.slice A m2 c) n1 m2 xs1 ys2 t1 none :=
  h.app2 ho hg (by rw [own_map2]; exact hr)
theorem blk_one {g : Nat} {e : TypeId} {v : Value} (h : Blk w g e #[v]) : SL w 1 (.slice (some ⟨g, 0, none⟩) 1 1) 1 [v] :=
  ⟨_, _, rfl, by omega, by omega, rfl, fun _ => ⟨_, rfl, h.lt, fun j u hu => by
    have hc := h.cell j
    rw [addr_add]
    simp only [Nat.zero_add]
    rw [hc, ← hu]
    simp⟩⟩
end
end Go.Proofs.Ytkfdkkhhkciocaa
/- What a row owns lies apart from blocks of another type. -/
namespace Go.Proofs.Ytkfdkkhhkciocaa
set_option linter.unusedVariables false
set_option linter.unusedSimpArgs false
open Go.RowKit
theorem own_typed {w : World} {base size n : Nat} {e : TypeId} {v : Value} {xs : List Value} (h : w.ownsRow base e size v n xs) : ∀ g, v.ownBlock = some g → ∃ cs, w.heap[g]? = some (.cells cs e (0, 0)) := by
  obtain ⟨-, hh⟩ := h
  intro g hg
  rcases hh with ⟨rfl, -⟩ | ⟨k, cap, cur, rfl, -, hk, -⟩
  · simp [Value.ownBlock] at hg
  · have : k = g := by simpa [Value.ownBlock] using hg
    subst this
    exact ⟨_, hk⟩
theorem own_apart {w : World} {B1 B2 s1 s2 n1 n2 : Nat} {e1 e2 : TypeId} {v1 v2 : Value} {x1 x2 : List Value} (h1 : w.ownsRow B1 e1 s1 v1 n1 x1) (h2 : w.ownsRow B2 e2 s2 v2 n2 x2) (hne : e1 ≠ e2) : ∀ x, v1.ownBlock = some x → v2.ownBlock ≠ some x := by
  intro x hx hy
  obtain ⟨cs, h3⟩ := own_typed h1 x hx
  obtain ⟨ds, h4⟩ := own_typed h2 x hy
  rw [h3] at h4
  injection h4 with h4
  injection h4 with _ h4
  exact hne h4
theorem own_blk_ne {w : World} {B s n g : Nat} {e t : TypeId} {v : Value} {xs : List Value} {cs : Array Value} (h : w.ownsRow B e s v n xs) (hb : Blk w g t cs) (hne : e ≠ t) : some g ≠ v.ownBlock := by
  intro hx
  obtain ⟨ds, h3⟩ := own_typed h g hx.symm
  unfold Blk at hb
  rw [h3] at hb
  injection hb with hb
  injection hb with _ hb
  exact hne hb
end Go.Proofs.Ytkfdkkhhkciocaa
/- As XOrders; but only the operations that F names keep I: those that wait for each of the fixed ones need not. -/
namespace Go.Proofs.Ytkfdkkhhkciocaa
set_option linter.unusedVariables false
set_option linter.unusedSimpArgs false
open Go.RowKit
section
variable {P : Program} {ops : Array Oper} {md : Region.Mode} {F : Nat → Bool} {I : World → Prop}
/-- whatever order is picked from here on; I is kept -/
def wpAnyF (P : Program) (md : Region.Mode) (ops : Array Oper) (F : Nat → Bool) (I : World → Prop) (QN : Act → World → Prop) : Nat → Array Bool → Act → World → Prop
  | 0, listed, a, w => Region.ready md ops listed = [] ∧ QN a w
  | f + 1, listed, a, w => (Region.ready md ops listed = [] → QN a w) ∧
    ∀ i ∈ Region.ready md ops listed, wpOp P ops (onlyN QN) i (fun a' w' => (F i = true → I w') ∧ wpAnyF P md ops F I QN f (listed.setIfInBounds i true) a' w') a w
variable {QN : Act → World → Prop}
/-- each operation that F leaves out waits for operation k -/
def keepsB (md : Region.Mode) (ops : Array Oper) (F : Nat → Bool) (k : Nat) : Bool :=
  (List.range ops.size).all fun j => F j || match ops[j]? with | some oj => oj.after.any (fun e => Region.binds md e && e.on == k) | none => true
theorem keepsB_spec {k : Nat} (h : keepsB md ops F k = true) : ∀ j oj, ops[j]? = some oj → F j = false → ∃ e ∈ oj.after, Region.binds md e = true ∧ e.on = k := by
  intro j oj hj hF
  unfold keepsB at h
  rw [List.all_eq_true] at h
  have hjs : j < ops.size := (Array.getElem?_eq_some_iff.1 hj).1
  have := h j (List.mem_range.2 hjs)
  rw [hF, hj, Bool.false_or] at this
  simp only [Array.any_eq_true] at this
  obtain ⟨x, hx, h2⟩ := this
  simp only [Bool.and_eq_true, beq_iff_eq] at h2
  exact ⟨oj.after[x], Array.getElem_mem hx, h2.1, h2.2⟩
theorem wpAny_of_F : ∀ (f : Nat) (listed : Array Bool) (a : Act) (w : World), wpAnyF P md ops F I QN f listed a w → wpAny P md ops (onlyN QN) f listed a w
  | 0, _, _, _, h => ⟨h.1, h.2⟩
  | f + 1, _, _, _, h => ⟨fun h0 => h.1 h0, fun i hi => wpOp_mono (fun a' w' h' => wpAny_of_F f _ a' w' h'.2) (h.2 i hi)⟩
theorem wpAnyF_first {i : Nat} {oi : Oper} {v : Value} (hF : ∀ j oj, ops[j]? = some oj → F j = false → ∃ e ∈ oj.after, Region.binds md e = true ∧ e.on = i) (hi : ops[i]? = some oi) (hsel : ∀ (j : Nat) (o : Oper) cs b, ops[j]? = some o → o.op ≠ .select cs b) :
    ∀ (fuel : Nat) (listed : Array Bool) (a : Act) (w : World),
      (∀ j oj, ops[j]? = some oj → j ≠ i → listed.getD j true = false → (∀ e ∈ oj.after, Region.binds md e = true → e.on ≠ i) → oi.apart ops oj = true) →
      i ∈ Region.ready md ops listed → Fixed P ops I oi v a → I w →
      wpAnyF P md ops F I QN fuel (listed.setIfInBounds i true) (a.put oi.dst v) w → wpAnyF P md ops F I QN (fuel + 1) listed a w := by
  intro fuel
  induction fuel with
  | zero =>
    intro listed a w _ hr hy hI H
    refine ⟨fun h => (by rw [h] at hr; cases hr), fun j hj => ?_⟩
    by_cases hji : j = i
    · subst hji; exact hy.wpOp hi hI ⟨fun _ => hI, H⟩
    · have := ready_mono hj hji
      rw [H.1] at this
      cases this
  | succ fuel ih =>
    intro listed a w hfree hr hy hI H
    refine ⟨fun h => (by rw [h] at hr; cases hr), fun j hj => ?_⟩
    by_cases hji : j = i
    · subst hji; exact hy.wpOp hi hI ⟨fun _ => hI, H⟩
    · have h1 := H.2 j (ready_mono hj hji)
      obtain ⟨hjun, oj, hoj, hall⟩ := mem_ready.1 hj
      have hnot : ∀ e ∈ oj.after, Region.binds md e = true → e.on ≠ i := fun e he hb heq => by
        have h1 := hall e he hb
        have h0 := (mem_ready.1 hr).1
        rw [heq] at h1
        rcases Nat.lt_or_ge i listed.size with h' | h'
        · simp [h'] at h0 h1; rw [h0] at h1; cases h1
        · simp [Array.getElem?_eq_none h'] at h1
      have hFj : F j = true := by
        cases hq : F j with
        | true => rfl
        | false =>
          obtain ⟨e, he, hb, heq⟩ := hF j oj hoj hq
          exact absurd heq (hnot e he hb)
      have h2 := wpOp_putI hoj (hfree j oj hoj hji hjun hnot) (fun cs b => hsel i oi cs b hi) (fun cs b => hsel j oj cs b hoj) (fun _ _ _ h => h) hy h1
      have hfree' : ∀ k ok, ops[k]? = some ok → k ≠ i → (listed.setIfInBounds j true).getD k true = false →
          (∀ e ∈ ok.after, Region.binds md e = true → e.on ≠ i) → oi.apart ops ok = true := fun k ok hk hki hun hno => by
        refine hfree k ok hk hki ?_ hno
        by_cases hjk : j = k
        · subst hjk; exact hjun
        · rw [getD_set_ne true hjk] at hun; exact hun
      refine wpOp_mono (fun a' w' h3 => ⟨h3.2.1, ih (listed.setIfInBounds j true) a' w' hfree' (ready_mono hr (Ne.symm hji)) h3.1 (h3.2.1 hFj) ?_⟩) h2
      rw [Array.setIfInBounds_comm _ _ hji]
      exact h3.2.2
theorem of_loud0 {k f : Nat} {o : Oper} {listed : Array Bool} {a : Act} {w : World} (hone : Region.ready md ops listed = [k]) (ho : ops[k]? = some o)
    (h : wpList P ops (onlyN fun a' w' => (F k = true → I w') ∧ wpAnyF P md ops F I QN f (listed.setIfInBounds k true) a' w') [o] a w) : wpAnyF P md ops F I QN (f + 1) listed a w :=
  ⟨fun h0 => (by rw [h0] at hone; cases hone), fun i hi => by
    rw [hone] at hi
    have hik : i = k := by simpa using hi
    subst hik
    exact wpOp_of_list ho h⟩
theorem of_two0 {k l f : Nat} {o o2 : Oper} {listed : Array Bool} {a : Act} {w : World} (hone : Region.ready md ops listed = [k, l]) (ho : ops[k]? = some o) (ho2 : ops[l]? = some o2)
    (h : wpList P ops (onlyN fun a' w' => (F k = true → I w') ∧ wpAnyF P md ops F I QN f (listed.setIfInBounds k true) a' w') [o] a w)
    (h2 : wpList P ops (onlyN fun a' w' => (F l = true → I w') ∧ wpAnyF P md ops F I QN f (listed.setIfInBounds l true) a' w') [o2] a w) : wpAnyF P md ops F I QN (f + 1) listed a w :=
  ⟨fun h0 => (by rw [h0] at hone; cases hone), fun i hi => by
    rw [hone] at hi
    have hik : i = k ∨ i = l := by simpa using hi
    rcases hik with rfl | rfl
    · exact wpOp_of_list ho h
    · exact wpOp_of_list ho2 h2⟩
theorem of_fix0 {k f : Nat} {o : Oper} {listed : Array Bool} {a : Act} {w : World} (hB : ((Region.ready md ops listed).contains k && Region.free md ops listed k && Region.noSelect ops && keepsB md ops F k) = true) (ho : ops[k]? = some o)
    (hw : Region.wanted o (yielded ops a.tmps) = true) (v : Value) (h1 : ∀ w, I w → (execOp a.eval o).run P w = .ok (.value v) w) (hI : I w)
    (h : wpAnyF P md ops F I QN f (listed.setIfInBounds k true) (a.put o.dst v) w) : wpAnyF P md ops F I QN (f + 1) listed a w := by
  simp only [Bool.and_eq_true] at hB
  exact wpAnyF_first (keepsB_spec hB.2) ho (Region.noSelect_spec hB.1.2) f listed a w (Region.free_spec ho hB.1.1.2) (by simpa using hB.1.1.1) (.inl ⟨hw, h1⟩) hI h
section
variable {l0 : List Oper}
theorem of_fix {k f : Nat} {o : Oper} {listed : Array Bool} {a : Act} {w : World} (hB : ((Region.ready md l0.toArray listed).contains k && Region.free md l0.toArray listed k && Region.noSelect l0.toArray && keepsB md l0.toArray F k) = true) (ho : l0[k]? = some o)
    (hw : Region.wanted o (yielded l0.toArray a.tmps) = true) (v : Value) (h1 : ∀ w, I w → (execOp a.eval o).run P w = .ok (.value v) w) (hI : I w)
    (h : wpAnyF P md l0.toArray F I QN f (listed.setIfInBounds k true) (a.put o.dst v) w) : wpAnyF P md l0.toArray F I QN (f + 1) listed a w := of_fix0 hB (by simpa using ho) hw v h1 hI h
theorem of_run {k f : Nat} {o : Oper} {listed : Array Bool} {a : Act} {w : World} (hB : ((Region.ready md l0.toArray listed).contains k && Region.free md l0.toArray listed k && Region.noSelect l0.toArray && keepsB md l0.toArray F k) = true) (ho : l0[k]? = some o)
    (hw : Region.wanted o (yielded l0.toArray a.tmps) = true) (v : Value) (h1 : ∀ w, (execOp a.eval o).run P w = .ok (.value v) w) (hI : I w)
    (h : wpAnyF P md l0.toArray F I QN f (listed.setIfInBounds k true) (a.put o.dst v) w) : wpAnyF P md l0.toArray F I QN (f + 1) listed a w := of_fix hB ho hw v (fun w _ => h1 w) hI h
theorem of_loud {k f : Nat} {o : Oper} {listed : Array Bool} {a : Act} {w : World} (hone : Region.ready md l0.toArray listed = [k]) (ho : l0[k]? = some o)
    (h : wpList P l0.toArray (onlyN fun a' w' => (F k = true → I w') ∧ wpAnyF P md l0.toArray F I QN f (listed.setIfInBounds k true) a' w') [o] a w) : wpAnyF P md l0.toArray F I QN (f + 1) listed a w := of_loud0 hone (by simpa using ho) h
theorem of_two {k l f : Nat} {o o2 : Oper} {listed : Array Bool} {a : Act} {w : World} (hone : Region.ready md l0.toArray listed = [k, l]) (ho : l0[k]? = some o) (ho2 : l0[l]? = some o2)
    (h : wpList P l0.toArray (onlyN fun a' w' => (F k = true → I w') ∧ wpAnyF P md l0.toArray F I QN f (listed.setIfInBounds k true) a' w') [o] a w)
    (h2 : wpList P l0.toArray (onlyN fun a' w' => (F l = true → I w') ∧ wpAnyF P md l0.toArray F I QN f (listed.setIfInBounds l true) a' w') [o2] a w) : wpAnyF P md l0.toArray F I QN (f + 1) listed a w := of_two0 hone (by simpa using ho) (by simpa using ho2) h h2
end
theorem wp_region_of (F : Nat → Bool) (I : World → Prop) {id : Nat} {a : Act} {w : World} {l : List Oper} {Q : Exit → Act → World → Prop} (hm : P.follows .mixedOrders = true)
    (h : wpAnyF P .any l.toArray F I (fun a w => Q .normal a w) l.length (Array.replicate l.length false) a w.drew) : (Code.region id l.toArray true).wp P Q a w := by
  refine Code.wp_mono (Q := onlyN (fun a w => Q .normal a w)) (fun e a w h => ?_) (wp_region_any hm (wpAny_of_F _ _ _ _ (by simpa using h)))
  cases e <;> first | exact h | exact (h : False).elim
theorem of_done {listed : Array Bool} {a : Act} {w : World} (hone : Region.ready md ops listed = []) (h : QN a w) : wpAnyF P md ops F I QN 0 listed a w := ⟨hone, h⟩
end
end Go.Proofs.Ytkfdkkhhkciocaa
/- Slices that are owned, out of words. -/
namespace Go.Proofs.Ytkfdkkhhkciocaa
set_option linter.unusedVariables false
set_option linter.unusedSimpArgs false
open Go.RowKit
/-- an owned row, its value written out -/
def OwnV (w : World) (base : Nat) (e : TypeId) (size : Nat) (v : Value) (n : Nat) (xs : List Value) : Prop := ∃ A c, v = .slice A n c ∧ w.ownsRow base e size (.slice A n c) n xs
theorem OwnV.mk {w : World} {base : Nat} {e : TypeId} {size n : Nat} {v : Value} {xs : List Value} (h : w.ownsRow base e size v n xs) : OwnV w base e size v n xs := by
  obtain ⟨A, c, rfl, -, -⟩ := own_form h
  exact ⟨A, c, rfl, h⟩
theorem OwnV.nil (w : World) (base : Nat) (e : TypeId) (size : Nat) : OwnV w base e size (.slice none 0 0) 0 [] := ⟨none, 0, rfl, World.ownsRow_nil _ _ _ _⟩
theorem own_out {w : World} {base : Nat} {e : TypeId} {size n c : Nat} {A : Option Addr} {xs : List Value} (h : w.ownsRow base e size (.slice A n c) n xs) : SL w size (.slice A n c) n xs ∧ ∀ ad, A = some ad → base ≤ ad.block := by
  obtain ⟨B, d, e1, h1, h2⟩ := own_form h
  injection e1 with e1 e2 e3
  subst e1 e3
  exact ⟨h1, h2⟩
theorem own_ext0 {w w' : World} {base : Nat} {e : TypeId} {size n : Nat} {v : Value} {xs : List Value} (h : w.ownsRow base e size v n xs) (hb : Ext w w') : w'.ownsRow base e size v n xs := by
  obtain ⟨hl, hh⟩ := h
  refine ⟨hl, ?_⟩
  rcases hh with ⟨rfl, rfl⟩ | ⟨g, cap, cur, rfl, h1, hg, h2⟩
  · exact .inl ⟨rfl, rfl⟩
  · exact .inr ⟨g, cap, cur, rfl, h1, (hb.block g (Blk.lt (w := w) (t := e) (cs := cur) hg)).trans hg, h2⟩
end Go.Proofs.Ytkfdkkhhkciocaa
