/- run.token, token of the reference. -/
import Derived.Test.YthnchhkiidlpkaaTokMath
import Derived.Test.YthnchhkiidlpkaaAppend
namespace Go.Proofs.Ythnchhkiidlpkaa
open Go.RowKit
theorem sizeTok : (Try.prog.info? 65).map (·.size) = some 3 := by kernel_rfl
theorem zeroTok : (Try.prog.info? 65).bind (·.zero) = some (.agg (tokv (0, 0, 0)).toArray) := by kernel_rfl
theorem elt_tok : Elt Try.prog 60 65 3 24 := ⟨Try.underlying60, by kernel_rfl, by omega⟩
theorem bitsZ_bd (n : Int) : 0 ≤ (bitsZ n).1 ∧ (bitsZ n).1 ≤ 12 := by
  unfold bitsZ
  split
  · next h => have := (szN_spec n h.1 h.2).1; simp; omega
  · simp
theorem three_one (a b c : Int) : (#[Value.int .i64 a, .int .i64 b, .int .i64 c] : Array Value).all (·.oneCell') = true := by
  rw [Array.all_eq_true']
  intro x hx
  simp at hx
  rcases hx with rfl | rfl | rfl <;> rfl
theorem or_add : ∀ r : Fin 16, ∀ x : Fin 13, bits .or .i64 ((r.val : Int) * 16) (x.val : Int) = 16 * (r.val : Int) + (x.val : Int) := by decide
theorem rtoken_any (r n : Int) (w : World) (h0 : 0 ≤ r) (h1 : r ≤ 15) : Calls Try.prog 75 #[.int .i64 r, .int .i64 n] w fun e w' => e = .returned (.agg (tokv (tokZ r n)).toArray) ∧ Ext w w' := by
  have HB := hid_ (fun W => rsizeBits_any n W)
  obtain ⟨b1, b2⟩ := bitsZ_bd n
  have HT := hid_ (show tokv (tokZ r n) = [.int .i64 (16 * r + (bitsZ n).1), .int .i64 (bitsZ n).1, .int .i64 (bitsZ n).2.1] from rfl)
  generalize tokZ r n = tk at *
  generalize bitsZ n = b at *
  obtain ⟨x1, x2, x3⟩ := b
  go_enter Try.func75, Try.ntmps75
  go_wp2_with (first
    | (refine wpList_alloc_abs' rfl (some 4) rfl 65 rfl _ zeroTok ?_; intro w1 g1 hb1 hx1 hg1)
    | (go_at_call 67; (with_reducible refine (HB.out _).mono ?_); rintro e w' ⟨rfl, rfl⟩)
    | (refine wpList_store_blk rfl 65 (.tmp 4) (.tmp 20) rfl _ _ rfl rfl hb1 3 sizeTok rfl rfl (three_one _ _ _) ?_; intro w5 hb5 hg5))
  refine ret_cell rfl rfl _ rfl hb5 _ Try.underlying65 rfl 3 sizeTok rfl ⟨by rw [HT.out], hx1.grown hg5 hg1⟩
theorem token_any (r : Nat) (m : Int) (w : World) (h1 : r ≤ 15) : Calls Try.prog 87 #[.int .i64 r, .int .i64 m] w fun e w' => e = .returned (.agg (tokv (tokZ r m)).toArray) ∧ Ext w w' := by
  have HB := hid_ (fun W => sizeBits_any m W)
  obtain ⟨b1, b2⟩ := bitsZ_bd m
  have HT := hid_ (show tokv (tokZ r m) = [.int .i64 (16 * r + (bitsZ m).1), .int .i64 (bitsZ m).1, .int .i64 (bitsZ m).2.1] from rfl)
  generalize tokZ r m = tk at *
  generalize bitsZ m = b at *
  obtain ⟨x1, x2, x3⟩ := b
  obtain ⟨x1, rfl⟩ : ∃ k : Nat, x1 = k := ⟨x1.toNat, by simp at b1; omega⟩
  have HO : bits .or .i64 ((r : Int) * 16) (x1 : Int) = 16 * (r : Int) + (x1 : Int) := or_add ⟨r, by omega⟩ ⟨x1, by simp at b2; omega⟩
  go_enter Try.func87, Try.ntmps87
  go_wp2_with (first
    | (refine wpList_alloc_abs' rfl (some 4) rfl 65 rfl _ zeroTok ?_; intro w1 g1 hb1 hx1 hg1)
    | (go_at_call 68; (with_reducible refine (HB.out _).mono ?_); rintro e w' ⟨rfl, rfl⟩)
    | (refine wpList_store_blk rfl 65 (.tmp 4) (.tmp 20) rfl _ _ rfl rfl hb1 3 sizeTok rfl rfl (three_one _ _ _) ?_; intro w5 hb5 hg5))
  refine ret_cell rfl rfl _ rfl hb5 _ Try.underlying65 rfl 3 sizeTok rfl ⟨by rw [HT.out], hx1.grown hg5 hg1⟩
theorem own_ext {w w' : World} {base : Nat} {e : TypeId} {size n : Nat} {v : Value} {xs : List Value} (h : w.ownsRow base e size v n xs) (hb : Ext w w') : w'.ownsRow base e size v n xs := by
  obtain ⟨hl, hh⟩ := h
  refine ⟨hl, ?_⟩
  rcases hh with ⟨rfl, rfl⟩ | ⟨g, cap, cur, rfl, h1, hg, h2⟩
  · exact .inl ⟨rfl, rfl⟩
  · exact .inr ⟨g, cap, cur, rfl, h1, (hb.block g (Blk.lt (w := w) (t := e) (cs := cur) hg)).trans hg, h2⟩
theorem one_sl3 (w : World) (T : TypeId) (a b c : Value) : SL (w.alloc (.cells #[a, b, c] T)) 3 (.slice (some ⟨w.heap.size, 0, none⟩) 1 1) 1 [a, b, c] := by
  have := (Blk.new w T #[a, b, c]).sl (size := 3) (n := 1) (c := 1) rfl (by omega) (by omega)
  simpa using this
theorem own_built3 {w : World} {base : Nat} (e : TypeId) (a b c : Value) (hb : base ≤ w.heap.size) :
    (w.alloc (.cells #[a, b, c] e)).ownsRow base e 3 (.slice (some ⟨w.heap.size, 0, none⟩) 1 1) 1 [a, b, c] :=
  ⟨rfl, .inr ⟨w.heap.size, 1, #[a, b, c], rfl, hb, heap_alloc_new w _, by omega, by unfold maxLen; omega, rfl, by simp⟩⟩
theorem tok_one (a b c : Int) : ∀ u ∈ [Value.int .i64 a, .int .i64 b, .int .i64 c], u.oneCell' = true := by
  intro u hu
  simp at hu
  rcases hu with rfl | rfl | rfl <;> rfl
theorem own_tok {w : World} {base : Nat} {e : TypeId} {v : Value} {T : List Tok} {a b c : Int} (h : w.ownsRow base e 3 v (T.length + 1) (toks T ++ [.int .i64 a, .int .i64 b, .int .i64 c])) : w.ownsRow base e 3 v (T ++ [(a, b, c)]).length (toks (T ++ [(a, b, c)])) := by
  simpa [toks, tokv] using h
/-- the contract of 'token' with its cells written out -/
theorem tokv_out (t : Tok) : (tokv t).toArray = #[.int .i64 t.1, .int .i64 t.2.1, .int .i64 t.2.2] := rfl
end Go.Proofs.Ythnchhkiidlpkaa
