/- Contracts for the law SegCounts, part 2: what the functions that it reaches answer, for all arguments that the theorems name. -/
import Derived.Shelf.Small.Bits
import Derived.Shelf.Small.Wraps
import Derived.Shelf.Strconv.Itoa0
import Derived.Ground.Names2Prog
import Derived.Shelf.Slices.SearchI
import Derived.Shelf.Bytes.SlSearch0
import Derived.Ground.SlbCloneProg
import Derived.Shelf.Bytes.SlClone
import Derived.Shelf.Bytes.SlEqualAll
import Derived.Shelf.Bytes.Small
import Derived.Test.YtkfdkkhhkciocaaProg
import Derived.Test.YtkfdkkhhkciocaaMSegCounts1
import Derived.Lib.BitFns
import Derived.Lib.ItoaNum
import Derived.WalkKit
import Derived.Maps.AppendAt
/-
  DERIVED: THE SHELF's CONTRACTS AT THIS DUMP, IN PLAIN WORDS (tools/lay-plain.mjs out of 'TryShelf.lean', which tools/lay-shelf.mjs wrote): THE SAME DECLARATIONS UNDER THE SAME NAMES: 'import', 'namespace', 'open', 'def', 'theorem' AND NOTHING ELSE: no command of the shelf's: FOR A HAND-IN. Each laying: the table of numbers ('.._ren') and one theorem, a field a fact of the dump's own or the kernel's comparison; each contract: ONE APPLICATION.
-/
namespace Go.Proofs
open Go.Shelf
def Try.lays128_ren : Go.Shelf.Ren := ⟨fun | 128 => 127 | n => n, fun | 51 => 167 | 3 => 3 | 4 => 4 | 46 => 120 | 5 => 5 | 9 => 9 | n => n, fun | n => n⟩
theorem Try.lays128 : Go.Proofs.Lays.n128 Try.prog Try.lays128_ren := {
  mixed := by kernel_rfl
  f128 := Try.func127.trans (congrArg some (by kernel_rfl))
  t3 := Try.underlying3
  a3 := Try.isAgg3
  z3 := Try.sizeOf3
  v3 := Try.zeroValue3
  t4 := Try.underlying4
  a4 := Try.isAgg4
  z4 := Try.sizeOf4
  v4 := Try.zeroValue4
  t5 := Try.underlying5
  a5 := Try.isAgg5
  z5 := Try.sizeOf5
  v5 := Try.zeroValue5
  t9 := Try.underlying9
  a9 := Try.isAgg9
  z9 := Try.sizeOf9
  v9 := Try.zeroValue9
  t46 := Try.underlying120
  a46 := Try.isAgg120
  z46 := Try.sizeOf120
  v46 := Try.zeroValue120
  t51 := Try.underlying167
  a51 := Try.isAgg167
  z51 := Try.sizeOf167
  v51 := Try.zeroValue167 }
/-- bits.Len32: "Len32 returns the minimum number of bits required to represent x; the result is 0 for x == 0.": IT RETURNS 'Lib.bitLen x'; the world is as it was. ('h0', 'h1': x is a uint32.) (LAID: no walk: one application.) -/
theorem Try.bits_Len32 (x : Int) (w : World) (h0 : 0 ≤ x) (h1 : x ≤ 4294967295) :
    Calls Try.prog 127 #[.int .u32 x] w fun e w' => e = .returned (.int .i64 (Lib.bitLen x.toNat)) ∧ w' = w := Any.bits_Len32 Try.lays128 x w h0 h1
def Try.lays125_ren : Go.Shelf.Ren := ⟨fun | 125 => 125 | 128 => 127 | 129 => 128 | n => n, fun | 46 => 120 | 3 => 3 | 51 => 167 | 53 => 169 | 4 => 4 | 5 => 5 | 9 => 9 | n => n, fun | n => n⟩
theorem Try.lays125 : Go.Proofs.Lays.n125 Try.prog Try.lays125_ren := {
  mixed := by kernel_rfl
  f125 := Try.func125.trans (congrArg some (by kernel_rfl))
  f128 := Try.func127.trans (congrArg some (by kernel_rfl))
  f129 := Try.func128.trans (congrArg some (by kernel_rfl))
  t3 := Try.underlying3
  a3 := Try.isAgg3
  z3 := Try.sizeOf3
  v3 := Try.zeroValue3
  t4 := Try.underlying4
  a4 := Try.isAgg4
  z4 := Try.sizeOf4
  v4 := Try.zeroValue4
  t5 := Try.underlying5
  a5 := Try.isAgg5
  z5 := Try.sizeOf5
  v5 := Try.zeroValue5
  t9 := Try.underlying9
  a9 := Try.isAgg9
  z9 := Try.sizeOf9
  v9 := Try.zeroValue9
  t46 := Try.underlying120
  a46 := Try.isAgg120
  z46 := Try.sizeOf120
  v46 := Try.zeroValue120
  t51 := Try.underlying167
  a51 := Try.isAgg167
  z51 := Try.sizeOf167
  v51 := Try.zeroValue167
  t53 := Try.underlying169
  a53 := Try.isAgg169
  z53 := Try.sizeOf169
  v53 := Try.zeroValue169 }
/-- bits.Len: "Len returns the minimum number of bits required to represent x; the result is 0 for x == 0.": IT RETURNS 'Lib.bitLen x'; the world is as it was. (A uint has 64 bits in the model.) ITS CALLEE bits.Len64 IS MET BY ITS OWN CONTRACT OFF THE SHELF (lay that first). (LAID: no walk: one application.) -/
theorem Try.bits_Len (x : Int) (w : World) (h0 : 0 ≤ x) (h1 : x ≤ 18446744073709551615) :
    Calls Try.prog 125 #[.int .u64 x] w fun e w' => e = .returned (.int .i64 (Lib.bitLen x.toNat)) ∧ w' = w := Any.bits_Len Try.lays125 x w h0 h1
def Try.lays215_ren : Go.Shelf.Ren := ⟨fun | 215 => 121 | n => n, fun | 3 => 3 | 4 => 4 | n => n, fun | n => n⟩
theorem Try.lays215 : Go.Proofs.Lays.n215 Try.prog Try.lays215_ren := {
  mixed := by kernel_rfl
  f215 := Try.func121.trans (congrArg some (by kernel_rfl))
  t3 := Try.underlying3
  a3 := Try.isAgg3
  z3 := Try.sizeOf3
  v3 := Try.zeroValue3
  t4 := Try.underlying4
  a4 := Try.isAgg4
  z4 := Try.sizeOf4
  v4 := Try.zeroValue4 }
open Go.RowKit in
/-- cmp.isNaN at int: 'x != x': false. (LAID: no walk: one application.) -/
theorem Try.cmp_isNaN_int (x : Int) (w : World) :
    Calls Try.prog 121 #[.int .i64 x] w fun e w' => e = .returned (.bool false) ∧ w' = w := Any.cmp_isNaN_int Try.lays215 x w
def Try.lays122_ren : Go.Shelf.Ren := ⟨fun | 122 => 104 | 215 => 121 | n => n, fun | 3 => 3 | 4 => 4 | n => n, fun | n => n⟩
theorem Try.lays122 : Go.Proofs.Lays.n122 Try.prog Try.lays122_ren := {
  mixed := by kernel_rfl
  f122 := Try.func104.trans (congrArg some (by kernel_rfl))
  f215 := Try.func121.trans (congrArg some (by kernel_rfl))
  t3 := Try.underlying3
  a3 := Try.isAgg3
  z3 := Try.sizeOf3
  v3 := Try.zeroValue3
  t4 := Try.underlying4
  a4 := Try.isAgg4
  z4 := Try.sizeOf4
  v4 := Try.zeroValue4 }
open Go.RowKit in
/-- cmp.Compare at int: "Compare returns -1 if x is less than y, 0 if x equals y, +1 if x is greater than y.": IT RETURNS 'Lib.compareInt x y'; the world is as it was. (LAID: no walk: one application.) -/
theorem Try.cmp_Compare_int (x y : Int) (w : World) :
    Calls Try.prog 104 #[.int .i64 x, .int .i64 y] w fun e w' => e = .returned (.int .i64 (Lib.compareInt x y)) ∧ w' = w := Any.cmp_Compare_int Try.lays122 x y w
def Try.lays129_ren : Go.Shelf.Ren := ⟨fun | 129 => 128 | n => n, fun | 53 => 169 | 3 => 3 | 4 => 4 | 46 => 120 | 5 => 5 | 9 => 9 | n => n, fun | n => n⟩
theorem Try.lays129 : Go.Proofs.Lays.n129 Try.prog Try.lays129_ren := {
  mixed := by kernel_rfl
  f129 := Try.func128.trans (congrArg some (by kernel_rfl))
  t3 := Try.underlying3
  a3 := Try.isAgg3
  z3 := Try.sizeOf3
  v3 := Try.zeroValue3
  t4 := Try.underlying4
  a4 := Try.isAgg4
  z4 := Try.sizeOf4
  v4 := Try.zeroValue4
  t5 := Try.underlying5
  a5 := Try.isAgg5
  z5 := Try.sizeOf5
  v5 := Try.zeroValue5
  t9 := Try.underlying9
  a9 := Try.isAgg9
  z9 := Try.sizeOf9
  v9 := Try.zeroValue9
  t46 := Try.underlying120
  a46 := Try.isAgg120
  z46 := Try.sizeOf120
  v46 := Try.zeroValue120
  t53 := Try.underlying169
  a53 := Try.isAgg169
  z53 := Try.sizeOf169
  v53 := Try.zeroValue169 }
/-- bits.Len64: "Len64 returns the minimum number of bits required to represent x; the result is 0 for x == 0.": IT RETURNS 'Lib.bitLen x'; the world is as it was. ('h0', 'h1': x is a uint64.) (LAID: no walk: one application.) -/
theorem Try.bits_Len64 (x : Int) (w : World) (h0 : 0 ≤ x) (h1 : x ≤ 18446744073709551615) :
    Calls Try.prog 128 #[.int .u64 x] w fun e w' => e = .returned (.int .i64 (Lib.bitLen x.toNat)) ∧ w' = w := Any.bits_Len64 Try.lays129 x w h0 h1
def Try.laysNm237_ren : Go.Shelf.Ren := ⟨fun | 37 => 121 | n => n, fun | 3 => 3 | 4 => 4 | n => n, fun | n => n⟩
theorem Try.laysNm237 : Go.Proofs.Lays2.n37 Try.prog Try.laysNm237_ren := {
  mixed := by kernel_rfl
  f37 := Try.func121.trans (congrArg some (by kernel_rfl))
  t3 := Try.underlying3
  a3 := Try.isAgg3
  z3 := Try.sizeOf3
  v3 := Try.zeroValue3
  t4 := Try.underlying4
  a4 := Try.isAgg4
  z4 := Try.sizeOf4
  v4 := Try.zeroValue4 }
open Go.RowKit Go.Lib in
/-- cmp.isNaN[int]: 'x != x': false. (LAID: no walk: one application.) -/
theorem Try.cmp_isNaN_int2 (x : Int) (w : World) :
    Calls Try.prog 121 #[.int .i64 x] w fun e w' => e = .returned (.bool false) ∧ w' = w := Any.cmp_isNaN_int2 Try.laysNm237 x w
def Try.lays115_ren : Go.Shelf.Ren := ⟨fun | 115 => 40 | n => n, fun | 37 => 38 | 4 => 4 | 9 => 9 | 5 => 5 | n => n, fun | n => n⟩
theorem Try.lays115 : Go.Proofs.Lays.n115 Try.prog Try.lays115_ren := {
  mixed := by kernel_rfl
  f115 := Try.func40.trans (congrArg some (by kernel_rfl))
  t4 := Try.underlying4
  a4 := Try.isAgg4
  z4 := Try.sizeOf4
  v4 := Try.zeroValue4
  t9 := Try.underlying9
  a9 := Try.isAgg9
  z9 := Try.sizeOf9
  v9 := Try.zeroValue9
  t37 := Try.underlying38
  a37 := Try.isAgg38
  z37 := Try.sizeOf38
  v37 := Try.zeroValue38 }
open Go.Proofs Go.RowKit Go.Lib in
/-- bytes.Equal, each argument with what 'string(..)' of it gives. (LAID: no walk: one application.) -/
theorem Try.bytes_Equal_strs (v1 v2 : Value) (t1 t2 : ByteArray) (w : World) (h1 : (convert 38 9 v1).run Try.prog w = .ok (.string t1) w) (h2 : (convert 38 9 v2).run Try.prog w = .ok (.string t2) w) :
    Calls Try.prog 40 #[v1, v2] w fun e w' => e = .returned (.bool (t1.toList == t2.toList)) ∧ w' = w := Any.bytes_Equal_strs Try.lays115 v1 v2 t1 t2 w h1 h2
def Try.laysSlK4_ren : Go.Shelf.Ren := ⟨fun | 4 => 38 | n => n, fun | 22 => 38 | 4 => 4 | 5 => 5 | n => n, fun | n => n⟩
theorem Try.laysSlK4 : Go.Proofs.SlLaysK.n4 Try.prog Try.laysSlK4_ren := {
  mixed := by kernel_rfl
  f4 := Try.func38.trans (congrArg some (by kernel_rfl))
  t4 := Try.underlying4
  a4 := Try.isAgg4
  z4 := Try.sizeOf4
  v4 := Try.zeroValue4
  t22 := Try.underlying38
  a22 := Try.isAgg38
  z22 := Try.sizeOf38
  v22 := Try.zeroValue38
  t5 := Try.underlying5
  i5 := by kernel_rfl }
open Go.RowKit Go.Lib in
/-- bytes.Clone: "Clone returns a copy of b[:len(b)]. The result may have additional unused capacity.": OF A SLICE THAT IS NOT nil IT RETURNS A SLICE THAT IS NOT nil, OF THE SAME BYTES, IN MEMORY OF THE CALL's OWN: in the how-to's words (6f): 'w'.ownsRow B e 1 v' n cells' · 'Below B w w'', B the heap's size at the call. b AT WHATEVER ADDRESS, its cells as 'open_ints' hands them ('a.add i'; the numbers 'xs'). No byte: no cell is asked for. (LAID: no walk: one application.) -/
theorem Try.bytes_Clone_at (a : Addr) (n c : Nat) (xs : List Int) (w : World) (hx : xs.length = n) (hbig : n ≤ 140737488355328) (hc : ∀ i, i < n → w.cell? (a.add i) = some (.int .u8 (xs.getD i 0))) :
    Calls Try.prog 38 #[.slice (some a) n c] w fun e w' => ∃ v', e = .returned v' ∧ w'.ownsRow w.heap.size 5 1 v' n (xs.map (Value.int .u8)) ∧ v' ≠ .slice none 0 0 ∧ Below w.heap.size w w' := Any.bytes_Clone_at Try.laysSlK4 a n c xs w hx hbig hc
open Go.RowKit Go.Lib in
/-- "Clone(nil) returns nil.": the world is as it was. (LAID: no walk: one application.) -/
theorem Try.bytes_Clone_nil (n c : Nat) (w : World) :
    Calls Try.prog 38 #[.slice none n c] w fun e w' => e = .returned (.slice none 0 0) ∧ w' = w := Any.bytes_Clone_nil Try.laysSlK4 n c w
def Try.laysnb115_ren : Go.Shelf.Ren := ⟨fun | 115 => 40 | n => n, fun | 37 => 38 | 4 => 4 | 9 => 9 | 5 => 5 | n => n, fun | n => n⟩
theorem Try.laysnb115 : Go.Proofs.Lays.nb115 Try.prog Try.laysnb115_ren := {
  mixed := by kernel_rfl
  f115 := Try.func40.trans (congrArg some (by kernel_rfl))
  t4 := Try.underlying4
  a4 := Try.isAgg4
  z4 := Try.sizeOf4
  v4 := Try.zeroValue4
  t9 := Try.underlying9
  a9 := Try.isAgg9
  z9 := Try.sizeOf9
  v9 := Try.zeroValue9
  t37 := Try.underlying38
  a37 := Try.isAgg38
  z37 := Try.sizeOf38
  v37 := Try.zeroValue38
  t5 := Try.underlying5
  a5 := Try.isAgg5
  z5 := Try.sizeOf5
  v5 := Try.zeroValue5 }
/-- bytes.Equal: WHOLE. (LAID: no walk: one application.) -/
theorem Try.bytes_Equal_all (p1 p2 : Option Addr) (n c m d : Nat) (xs ys : List Int) (w : World) (hx : xs.length = n) (hy : ys.length = m) (h1 : Lib.BytesIn w p1 n xs) (h2 : Lib.BytesIn w p2 m ys) :
    Calls Try.prog 40 #[.slice p1 n c, .slice p2 m d] w fun e w' => e = .returned (.bool (Lib.bytesOf xs == Lib.bytesOf ys)) ∧ w' = w := Any.bytes_Equal_all Try.laysnb115 p1 p2 n c m d xs ys w hx hy h1 h2
/-- bytes.Equal: "Equal reports whether a and b are the same length and contain the same bytes. A nil argument is equivalent to an empty slice.": IT RETURNS 'the bytes of the one == the bytes of the other'; the world is as it was. THE TWO ARGUMENTS COME AS WHATEVER VALUES, each with the one fact that the walk wants of it: what 'string(..)' of it gives: for a slice whose cells you know: 'run_convert_bytes_arg' (Derived/Laws/BytesArg.lean) hands that fact; for a nil one: 'run_convert_bytes_nil' (with xs := []). (LAID: no walk: one application.) -/
theorem Try.bytes_Equal (v1 v2 : Value) (xs ys : List Int) (w : World) (h1 : (convert 38 9 v1).run Try.prog w = .ok (.string (strOfNums xs)) w) (h2 : (convert 38 9 v2).run Try.prog w = .ok (.string (strOfNums ys)) w) :
    Calls Try.prog 40 #[v1, v2] w fun e w' => e = .returned (.bool (Lib.bytesOf xs == Lib.bytesOf ys)) ∧ w' = w := Any.bytes_Equal Try.lays115 v1 v2 xs ys w h1 h2
end Go.Proofs
/- size.Bits, size.Of, SizeBits of the reference. -/
namespace Go.Proofs.Ytkfdkkhhkciocaa
set_option linter.unusedVariables false
set_option linter.unusedSimpArgs false
open Go.RowKit
theorem calls_back {P : Program} {f : FuncId} {args : Array Value} {w : World} {v : Value} (h : Calls P f args w fun e w' => e = .returned v ∧ w' = w) : Calls P f args w fun e w' => e = .returned v ∧ w = w' :=
  h.mono fun _ _ ⟨a, b⟩ => ⟨a, b.symm⟩
/-- the size of a number: the bits of its absolute value -/
def szN (n : Int) : Nat := Lib.bitLen n.natAbs
theorem szN_spec (n : Int) (h1 : -4095 ≤ n) (h2 : n ≤ 4095) : szN n ≤ 12 ∧ n.natAbs < 2 ^ szN n ∧ (n ≠ 0 → 1 ≤ szN n ∧ 2 ^ (szN n - 1) ≤ n.natAbs) := by
  have hb : n.natAbs < 2 ^ 12 := by omega
  refine ⟨Lib.bitLen_le _ 12 (by omega) hb, ?_, fun h0 => ?_⟩
  · by_cases h0 : n = 0
    · subst h0; decide
    · exact (Lib.bitLenAux_bounds 64 n.natAbs (by omega) (by omega)).2.2
  · have := Lib.bitLenAux_bounds 64 n.natAbs (by omega) (by omega)
    exact ⟨this.1, this.2.1⟩
theorem szN_uniq (n : Int) (h1 : -4095 ≤ n) (h2 : n ≤ 4095) (k : Nat) (ha : n.natAbs < 2 ^ k) (hb : ∀ j, j < k → 2 ^ j ≤ n.natAbs) : k = szN n := by
  obtain ⟨-, g2, g3⟩ := szN_spec n h1 h2
  rcases Nat.lt_trichotomy k (szN n) with h | h | h
  · by_cases h0 : n = 0
    · subst h0
      have : szN 0 = 0 := by decide
      omega
    · have := (g3 h0).2
      have := Nat.pow_le_pow_right (n := 2) (by omega) (show k ≤ szN n - 1 by omega)
      omega
  · exact h
  · have := hb (szN n) h
    omega
/-- what Bits answers -/
def bitsZ (n : Int) : Int × Int × Int := if -4095 ≤ n ∧ n ≤ 4095 then (szN n, if n < 0 then n + 2 ^ szN n - 1 else n, 0) else (0, 0, 1)
set_option maxHeartbeats 400000 in
theorem sizeBits_any (n : Int) (w : World) : Calls Try.prog 123 #[.int .i64 n] w fun e w' => e = .returned (.tuple #[.int .i64 (bitsZ n).1, .int .i64 (bitsZ n).2.1, .int .i64 (bitsZ n).2.2]) ∧ w = w' := by
  by_cases hin : -4095 ≤ n ∧ n ≤ 4095
  · obtain ⟨h1, h2⟩ := hin
    obtain ⟨g1, -, -⟩ := szN_spec n h1 h2
    have hl := hid_ (fun W => calls_back (Try.bits_Len n.natAbs W (by omega) (by omega)))
    have hf : bitsZ n = ((szN n : Int), (if n < 0 then n + 2 ^ szN n - 1 else n), (0 : Int)) := by unfold bitsZ; rw [if_pos ⟨h1, h2⟩]
    rw [hf]
    have hsz : Lib.bitLen ((n.natAbs : Int)).toNat = szN n := by simp [szN]
    have hmx : (n.natAbs : Int) = max n (-n) := by omega
    rw [hsz, hmx] at hl
    clear hf hsz hmx
    have p1 := pow_le (szN n) 12 g1
    have p2 := pow_pos' (szN n)
    have p3 : (2 : Int) ^ 12 = 4096 := by decide
    rw [p3] at p1
    clear p3
    generalize szN n = s at *
    by_cases hn : n < 0
    · rw [if_pos hn]
      go_enter Try.func123, Try.ntmps123
      go_wp2_with (go_at_call 125; refine (hl.out _).mono ?_; rintro e w' ⟨rfl, rfl⟩)
      refine bodyPost_ret (results_tmp3 rfl _ _ _) rfl ?_
      refine ⟨?_, rfl⟩
      have e : n + ((2 : Int) ^ s - 1) = n + 2 ^ s - 1 := by omega
      show Ending.returned (Value.tuple #[Value.int .i64 s, Value.int .i64 (n + ((2 : Int) ^ s - 1)), Value.int .i64 0]) = _
      rw [e]
    · rw [if_neg hn]
      go_enter Try.func123, Try.ntmps123
      go_wp2_with (go_at_call 125; refine (hl.out _).mono ?_; rintro e w' ⟨rfl, rfl⟩)
      refine bodyPost_ret (results_tmp3 rfl _ _ _) rfl ?_
      exact ⟨rfl, rfl⟩
  · have hf : bitsZ n = (0, 0, 1) := by unfold bitsZ; rw [if_neg hin]
    rw [hf]
    clear hf
    by_cases hn : n ≤ -4096
    · have hd : decide (n ≤ -4096) = true := by simpa using hn
      clear hin
      go_enter Try.func123, Try.ntmps123
      go_wp2_with fail
      refine bodyPost_ret (results_tmp3 rfl _ _ _) rfl ?_
      exact ⟨rfl, rfl⟩
    · have hd : decide (n ≤ -4096) = false := by simpa using hn
      have h4 : 4096 ≤ n := by omega
      clear hin
      go_enter Try.func123, Try.ntmps123
      go_wp2_with fail
      refine bodyPost_ret (results_tmp3 rfl _ _ _) rfl ?_
      exact ⟨rfl, rfl⟩
set_option maxHeartbeats 400000 in
theorem rsizeBits_any (n : Int) (w : World) : Calls Try.prog 110 #[.int .i64 n] w fun e w' => e = .returned (.tuple #[.int .i64 (bitsZ n).1, .int .i64 (bitsZ n).2.1, .int .i64 (bitsZ n).2.2]) ∧ w = w' := by
  by_cases hin : -4095 ≤ n ∧ n ≤ 4095
  · have hb := inB_iff.2 hin
    obtain ⟨h1, h2⟩ := hin
    have HS := hid_ (szN_spec n h1 h2)
    have HU := hid_ (szN_uniq n h1 h2)
    have hf : bitsZ n = ((szN n : Int), (if n < 0 then n + 2 ^ szN n - 1 else n), (0 : Int)) := by unfold bitsZ; rw [if_pos ⟨h1, h2⟩]
    have HF := hid_ hf
    have HM : Hid ((n.natAbs : Int) = max n (-n)) := hid_ (by omega)
    clear hf
    go_enter Try.func110, Try.ntmps110
    go_wp2_with (go_at_call 28; refine (outside_any _ _ _ _).mono ?_; rintro e w' ⟨rfl, rfl⟩)
    go_loop [5] (fun i => ∃ k : Nat, k ≤ szN n ∧ i = .int .i64 k) (fun i => 13 - (intOf i).toNat)
    case atStart => exact ⟨0, by omega, rfl⟩
    case round =>
      obtain ⟨k, hk, rfl⟩ := hrel
      have hk12 : k ≤ 12 := by have := HS.out.1; omega
      have p1 := pow_le k 12 hk12
      have p2 := pow_pos' k
      have p3 : (2 : Int) ^ 12 = 4096 := by decide
      rw [p3] at p1
      clear p3
      by_cases hlt : (2 : Int) ^ k ≤ max n (-n)
      · have hks : k < szN n := by
          rcases Nat.lt_or_ge k (szN n) with h | h
          · exact h
          · have e : k = szN n := by omega
            have h9 := HS.out.2.1
            have h8 := HM.out
            rw [← e] at h9
            have h7 : (n.natAbs : Int) < 2 ^ k := by exact_mod_cast h9
            omega
        go_wp2_with (go_at_call 100; refine (power_any _ _ (by omega)).mono ?_; rintro e w' ⟨rfl, rfl⟩)
        go_round
        case rel => exact ⟨k + 1, by omega, by go_num⟩
        case measure => simp [intOf]; omega
      · have hks : k = szN n := by
          have h8 := HM.out
          have h7 : (n.natAbs : Int) < 2 ^ k := by omega
          have h6 : n.natAbs < 2 ^ k := by exact_mod_cast h7
          rcases Nat.lt_or_ge k (szN n) with h | h
          · have h9 := HS.out.2.2
            by_cases h0 : n = 0
            · subst h0
              have : szN 0 = 0 := by decide
              omega
            · have h5 := (h9 h0).2
              have := Nat.pow_le_pow_right (n := 2) (by omega) (show k ≤ szN n - 1 by omega)
              omega
          · omega
        have HK := hid_ hks
        clear hks
        by_cases hn : n < 0
        · go_wp2_with (go_at_call 100; refine (power_any _ _ (by omega)).mono ?_; rintro e w' ⟨rfl, rfl⟩)
          refine bodyPost_ret (results_tmp3 rfl _ _ _) rfl ?_
          refine ⟨?_, rfl⟩
          rw [HF.out, ← HK.out, if_pos hn]
          rfl
        · go_wp2_with (go_at_call 100; refine (power_any _ _ (by omega)).mono ?_; rintro e w' ⟨rfl, rfl⟩)
          refine bodyPost_ret (results_tmp3 rfl _ _ _) rfl ?_
          refine ⟨?_, rfl⟩
          rw [HF.out, ← HK.out, if_neg (by omega)]
          rfl
  · have hb : inB n (-4095) 4095 = false := inB_not.2 (by omega)
    have hf : bitsZ n = (0, 0, 1) := by unfold bitsZ; rw [if_neg hin]
    rw [hf]
    clear hf hin
    go_enter Try.func110, Try.ntmps110
    go_wp2_with (go_at_call 28; refine (outside_any _ _ _ _).mono ?_; rintro e w' ⟨rfl, rfl⟩)
    refine bodyPost_ret (results_tmp3 rfl _ _ _) rfl ?_
    exact ⟨rfl, rfl⟩
end Go.Proofs.Ytkfdkkhhkciocaa
/- The zigzag order, in plain words. -/
namespace Go.Proofs.Ytkfdkkhhkciocaa
set_option linter.unusedVariables false
set_option linter.unusedSimpArgs false
def zstep (s : Int × Int × Bool) : Int × Int × Bool :=
  if s.2.2 then (if s.2.1 = 7 then (s.1 + 1, s.2.1, false) else if s.1 = 0 then (s.1, s.2.1 + 1, false) else (s.1 - 1, s.2.1 + 1, true))
  else (if s.1 = 7 then (s.1, s.2.1 + 1, true) else if s.2.1 = 0 then (s.1 + 1, s.2.1, true) else (s.1 + 1, s.2.1 - 1, false))
def zst : Nat → Int × Int × Bool
  | 0 => (0, 0, true)
  | k + 1 => zstep (zst k)
def zigAt (k : Nat) : Int := 8 * (zst k).1 + (zst k).2.1
def zigL : List Int := (List.range 64).map zigAt
theorem zst_bd (k : Nat) (h : k < 64) : 0 ≤ (zst k).1 ∧ (zst k).1 ≤ 7 ∧ 0 ≤ (zst k).2.1 ∧ (zst k).2.1 ≤ 7 :=
  (by decide +kernel : ∀ j : Fin 64, 0 ≤ (zst j.val).1 ∧ (zst j.val).1 ≤ 7 ∧ 0 ≤ (zst j.val).2.1 ∧ (zst j.val).2.1 ≤ 7) ⟨k, h⟩
theorem zigL_len : zigL.length = 64 := by simp [zigL]
theorem zigL_take_succ (k : Nat) (h : k < 64) : zigL.take (k + 1) = zigL.take k ++ [zigAt k] := by
  rw [List.take_succ_eq_append_getElem (by rw [zigL_len]; exact h)]
  simp [zigL]
theorem zigL_get (k : Nat) (h : k < zigL.length) : zigL[k] = zigAt k := by simp [zigL]
theorem zigAt_bd (k : Nat) (h : k < 64) : 0 ≤ zigAt k ∧ zigAt k < 64 := by
  have := zst_bd k h
  unfold zigAt
  omega
/-- the reference's row k of a slant -/
def zrow (s k : Nat) : List Int := (List.range k).filterMap fun (j : Nat) =>
  let r : Int := if s % 2 = 0 then 7 - (j : Int) else (j : Int)
  if 0 ≤ (s : Int) - r ∧ (s : Int) - r ≤ 7 then some (8 * r + (s - r)) else none
theorem zrow_succ (s k : Nat) : zrow s (k + 1) = zrow s k ++ (if 0 ≤ (s : Int) - (if s % 2 = 0 then 7 - (k : Int) else k) ∧ (s : Int) - (if s % 2 = 0 then 7 - (k : Int) else k) ≤ 7 then [8 * (if s % 2 = 0 then 7 - (k : Int) else k) + (s - (if s % 2 = 0 then 7 - (k : Int) else k))] else []) := by
  unfold zrow
  rw [List.range_succ, List.filterMap_append]
  congr 1
  simp only [List.filterMap_cons, List.filterMap_nil]
  by_cases h : 0 ≤ (s : Int) - (if s % 2 = 0 then 7 - (k : Int) else k) ∧ (s : Int) - (if s % 2 = 0 then 7 - (k : Int) else k) ≤ 7
  · rw [if_pos h, if_pos h]
  · rw [if_neg h, if_neg h]
def zall (s : Nat) : List Int := (List.range s).flatMap fun s => zrow s 8
theorem zall_succ (s : Nat) : zall (s + 1) = zall s ++ zrow s 8 := by
  unfold zall
  rw [List.range_succ, List.flatMap_append]
  simp
theorem zall_15 : zall 15 = zigL := by decide +kernel
theorem zlen (s k : Nat) (hs : s ≤ 15) (hk : k ≤ 8) : (zall s ++ zrow s k).length ≤ 200 :=
  (by decide +kernel : ∀ (s : Fin 16) (k : Fin 9), (zall s.val ++ zrow s.val k.val).length ≤ 200) ⟨s, by omega⟩ ⟨k, by omega⟩
/-- the places, back: number i at place zigAt i -/
def zfrom (zs : List Int) (k : Nat) : List Int := (List.range k).foldl (fun l i => l.set (zigAt i).toNat (zs.getD i 0)) (List.replicate 64 0)
theorem zfrom_succ (zs : List Int) (k : Nat) : zfrom zs (k + 1) = (zfrom zs k).set (zigAt k).toNat (zs.getD k 0) := by
  unfold zfrom
  rw [List.range_succ, List.foldl_append]
  rfl
theorem zfrom_len (zs : List Int) (k : Nat) : (zfrom zs k).length = 64 := by
  induction k with
  | zero => simp [zfrom]
  | succ k ih => rw [zfrom_succ]; simpa using ih
/-- the numbers in zigzag order -/
def zto (zs : List Int) : List Int := (List.range 64).map fun i => zs.getD (zigAt i).toNat 0
theorem zto_len (zs : List Int) : (zto zs).length = 64 := by simp [zto]
theorem zto_set (zs : List Int) (k : Nat) (h : k < 64) : ((zto zs).take k ++ List.replicate (64 - k) 0).set k (zs.getD (zigAt k).toNat 0) = (zto zs).take (k + 1) ++ List.replicate (64 - (k + 1)) 0 := by
  have hl : ((zto zs).take k).length = k := by rw [List.length_take, zto_len]; omega
  rw [List.set_append_right _ _ (by omega), hl, Nat.sub_self, List.take_succ_eq_append_getElem (by rw [zto_len]; exact h)]
  obtain ⟨m, hm⟩ : ∃ m, 64 - k = m + 1 := ⟨64 - k - 1, by omega⟩
  have hm2 : 64 - (k + 1) = m := by omega
  rw [hm, hm2, List.replicate_succ, List.set_cons_zero]
  simp [zto]
end Go.Proofs.Ytkfdkkhhkciocaa
/- The tokens of a block, in plain words. -/
namespace Go.Proofs.Ytkfdkkhhkciocaa
set_option linter.unusedVariables false
set_option linter.unusedSimpArgs false
open Go.RowKit
def tokZ (r n : Int) : Tok := (16 * r + (bitsZ n).1, (bitsZ n).1, (bitsZ n).2.1)
def long : Tok := (240, 0, 0)
def stepT (s : List Tok × Nat) (n : Int) : List Tok × Nat := if n = 0 then (s.1, s.2 + 1) else (s.1 ++ List.replicate (s.2 / 16) long ++ [tokZ ((s.2 % 16 : Nat) : Int) n], 0)
/-- behind the first k numbers of l -/
def accT (t0 : Tok) (l : List Int) (k : Nat) : List Tok × Nat := (l.take k).foldl stepT ([t0], 0)
theorem accT_zero (t0 : Tok) (l : List Int) : accT t0 l 0 = ([t0], 0) := rfl
theorem accT_succ (t0 : Tok) (l : List Int) (k : Nat) (h : k < l.length) : accT t0 l (k + 1) = stepT (accT t0 l k) l[k] := by
  unfold accT
  rw [List.take_succ_eq_append_getElem h, List.foldl_append]
  rfl
theorem accT_bd (t0 : Tok) (l : List Int) : ∀ k, k ≤ l.length → k ≤ 64 → (accT t0 l k).2 ≤ k ∧ (accT t0 l k).1.length ≤ 1 + 64 * k := by
  intro k
  induction k with
  | zero => intro _ _; simp [accT_zero]
  | succ k ih =>
    intro h1 h2
    obtain ⟨a, b⟩ := ih (by omega) (by omega)
    rw [accT_succ t0 l k (by omega)]
    unfold stepT
    split
    · simp; omega
    · simp; omega
theorem stepT_zero {s : List Tok × Nat} {n : Int} (h : n = 0) : stepT s n = (s.1, s.2 + 1) := by unfold stepT; rw [if_pos h]
theorem stepT_one {s : List Tok × Nat} {n : Int} (h : n ≠ 0) : stepT s n = (s.1 ++ List.replicate (s.2 / 16) long ++ [tokZ ((s.2 % 16 : Nat) : Int) n], 0) := by unfold stepT; rw [if_neg h]
/-- all tokens of a block (as a list in zig order), behind a number -/
def tokensZ (before : Int) (z : List Int) : List Tok :=
  let s := accT (tokZ 0 (z.getD 0 0 - before)) (z.drop 1) 63
  if 0 < s.2 then s.1 ++ [(0, 0, 0)] else s.1
end Go.Proofs.Ytkfdkkhhkciocaa
/- The tokens of blocks, one behind the other, and whoever eats them, in plain words. -/
namespace Go.Proofs.Ytkfdkkhhkciocaa
set_option linter.unusedVariables false
set_option linter.unusedSimpArgs false
open Go.RowKit
/-- a token whose symbol is a byte and whose value fits its width -/
def tokWf (t : Tok) : Prop := 0 ≤ t.1 ∧ t.1 ≤ 255 ∧ 0 ≤ t.2.1 ∧ t.2.1 ≤ 12 ∧ 0 ≤ t.2.2 ∧ t.2.2 < 2 ^ t.2.1.toNat
theorem bitsZ_wf (n : Int) : 0 ≤ (bitsZ n).1 ∧ (bitsZ n).1 ≤ 12 ∧ 0 ≤ (bitsZ n).2.1 ∧ (bitsZ n).2.1 < 2 ^ (bitsZ n).1.toNat := by
  unfold bitsZ
  split
  · next h =>
    obtain ⟨s1, s2, s3⟩ := szN_spec n h.1 h.2
    have p := pow_pos' (szN n)
    have s2' : (n.natAbs : Int) < 2 ^ szN n := by exact_mod_cast s2
    refine ⟨by simp, by simp; omega, ?_, ?_⟩
    · show 0 ≤ (if n < 0 then n + 2 ^ szN n - 1 else n)
      split <;> omega
    · show (if n < 0 then n + 2 ^ szN n - 1 else n) < 2 ^ ((szN n : Nat) : Int).toNat
      rw [Int.toNat_natCast]
      split <;> omega
  · simp
theorem tokZ_wf (r : Nat) (n : Int) (h : r ≤ 15) : tokWf (tokZ (r : Int) n) := by
  obtain ⟨a, b, c, d⟩ := bitsZ_wf n
  unfold tokWf tokZ
  dsimp only
  exact ⟨by omega, by omega, a, b, c, d⟩
theorem accT_wf (t0 : Tok) (l : List Int) (h0 : tokWf t0) : ∀ k, k ≤ l.length → ∀ t ∈ (accT t0 l k).1, tokWf t := by
  intro k
  induction k with
  | zero => intro _ t ht; rw [accT_zero] at ht; simp at ht; subst ht; exact h0
  | succ k ih =>
    intro hk t ht
    have ih := ih (by omega)
    rw [accT_succ t0 l k (by omega)] at ht
    generalize accT t0 l k = s at *
    by_cases hz : l[k] = 0
    · rw [stepT_zero hz] at ht; exact ih t ht
    · rw [stepT_one hz] at ht
      simp only [List.mem_append, List.mem_replicate, List.mem_singleton] at ht
      rcases ht with (ht | ⟨-, rfl⟩) | rfl
      · exact ih t ht
      · unfold tokWf long; decide
      · exact tokZ_wf _ _ (by omega)
theorem tokensZ_wf (before : Int) (z : List Int) (hz : z.length = 64) : ∀ t ∈ tokensZ before z, tokWf t := by
  intro t ht
  have h := accT_wf (tokZ 0 (z.getD 0 0 - before)) (z.drop 1) (tokZ_wf 0 _ (by omega)) 63 (by simp; omega)
  unfold tokensZ at ht
  simp only at ht
  split at ht
  · rcases List.mem_append.1 ht with h1 | h1
    · exact h t h1
    · simp at h1; subst h1; unfold tokWf; decide
  · exact h t ht
/-- block k of a flat list -/
def blkAt (Z : List Int) (k : Nat) : List Int := (Z.drop (k * 64)).take 64
/-- the first number of the block ahead -/
def befAt (Z : List Int) (k : Nat) : Int := if k = 0 then 0 else (blkAt Z (k - 1)).getD 0 0
/-- the tokens of block k -/
def toksAt (Z : List Int) (k : Nat) : List Tok := tokensZ (befAt Z k) (zto (blkAt Z k))
/-- tokens, each with whether it is the first -/
def flagT (T : List Tok) : List (Tok × Bool) := T.zipIdx.map fun p => (p.1, p.2 == 0)
theorem flagT_len (T : List Tok) : (flagT T).length = T.length := by simp [flagT]
theorem flagT_drop (T : List Tok) (j : Nat) (h : j < T.length) : (flagT T).drop j = (T[j], j == 0) :: (flagT T).drop (j + 1) := by
  rw [List.drop_eq_getElem_cons (by rw [flagT_len]; exact h)]
  simp [flagT]
/-- all tokens from block k on -/
def flagsAt (Z : List Int) (n k : Nat) : List (Tok × Bool) := (List.range' k (n - k)).flatMap fun i => flagT (toksAt Z i)
theorem flagsAt_succ (Z : List Int) (n k : Nat) (h : k < n) : flagsAt Z n k = flagT (toksAt Z k) ++ flagsAt Z n (k + 1) := by
  unfold flagsAt
  rw [show n - k = (n - (k + 1)) + 1 by omega, List.range'_succ, List.flatMap_cons]
theorem flagsAt_end (Z : List Int) (n : Nat) : flagsAt Z n n = [] := by unfold flagsAt; simp
section
variable {σ : Type}
/-- who eats tokens, until an error -/
def eatGo (step : σ → Tok → Bool → Int × σ) : List (Tok × Bool) → σ → Int × σ
  | [], s => (0, s)
  | (t, b) :: r, s => if (step s t b).1 ≠ 0 then step s t b else eatGo step r (step s t b).2
def eachZ (step : σ → Tok → Bool → Int × σ) (n : Nat) (Z : List Int) (s : σ) : Int × σ :=
  if 400 < n then (2, s) else if allIn Z (-2047) 2047 = false then (1, s) else eatGo step (flagsAt Z n 0) s
theorem eatGo_err {step : σ → Tok → Bool → Int × σ} {t : Tok} {b : Bool} {r : List (Tok × Bool)} {s : σ} (h : (step s t b).1 ≠ 0) : eatGo step ((t, b) :: r) s = step s t b := by unfold eatGo; rw [if_pos h]
theorem eatGo_ok {step : σ → Tok → Bool → Int × σ} {t : Tok} {b : Bool} {r : List (Tok × Bool)} {s : σ} (h : (step s t b).1 = 0) : eatGo step ((t, b) :: r) s = eatGo step r (step s t b).2 := by rw [eatGo, if_neg (by simp [h])]
end
theorem blkAt_len (Z : List Int) (n k : Nat) (hz : Z.length = n * 64) (h : k < n) : (blkAt Z k).length = 64 := by
  unfold blkAt
  rw [List.length_take, List.length_drop]
  omega
theorem blkAt_mem {Z : List Int} {k : Nat} {x : Int} (h : x ∈ blkAt Z k) : x ∈ Z := List.mem_of_mem_drop (List.mem_of_mem_take h)
theorem blkAt_in (Z : List Int) (n : Nat) (hz : Z.length = n * 64) : allIn Z (-2047) 2047 = true ↔ ∀ k, k < n → allIn (blkAt Z k) (-2047) 2047 = true := by
  constructor
  · intro h k _
    rw [allIn_iff] at h ⊢
    exact fun x hx => h x (blkAt_mem hx)
  · intro h
    rw [allIn_iff]
    intro x hx
    obtain ⟨i, hi, rfl⟩ := List.getElem_of_mem hx
    have h1 := allIn_iff.1 (h (i / 64) (by omega))
    have h2 : (blkAt Z (i / 64))[i % 64]? = some Z[i] := by
      unfold blkAt
      rw [List.getElem?_take_of_lt (by omega), List.getElem?_drop, show i / 64 * 64 + i % 64 = i by omega, List.getElem?_eq_getElem hi]
    exact h1 _ (List.mem_of_getElem? h2)
end Go.Proofs.Ytkfdkkhhkciocaa
/- append onto a row of the call's own. -/
namespace Go.Proofs.Ytkfdkkhhkciocaa
set_option linter.unusedVariables false
set_option linter.unusedSimpArgs false
open Go.RowKit
section
variable {P : Program} (w : World)
theorem run_append_of_nil (base : Nat) (t ty e : TypeId) (i : TypeInfo) (size : Nat) (ht : P.underlying t = some (.slice e)) (hi : P.info? e = some i)
    (v : Value) (n : Nat) (xs : List Value) (hown : w.ownsRow base e size v n xs) (c : Nat) : (Builtin.append_ #[t, t] ty #[v, .slice none 0 c]).run P w = .ok v w := by
  rcases hown.2 with ⟨rfl, rfl⟩ | ⟨g, cap, cur, rfl, _, _, hnc, _⟩
  · simp [Builtin.append_, run_underlying ht, sizeOf, typeInfo, hi, Builtin.lenOf, Builtin.firstCells]
  · simp [Builtin.append_, run_underlying ht, sizeOf, typeInfo, hi, Builtin.lenOf, Builtin.firstCells, hnc, storeCells]
theorem run_append_sl (base : Nat) (t ty e : TypeId) (i : TypeInfo) (z : Value) (size bytes : Nat) (ht : P.underlying t = some (.slice e)) (hi : P.info? e = some i) (hz : i.zero = some z)
    (hsize : i.size = size) (hby : i.bytes = bytes) (hzs : z.cells.size = size) (hsz : 0 < size)
    (v : Value) (n : Nat) (xs : List Value) (hown : w.ownsRow base e size v n xs)
    (x : Value) (m : Nat) (news : List Value) (hr : SL w size x m news) (h1 : ∀ u ∈ news, u.oneCell' = true)
    (h63 : n + m ≤ maxLen) (hbytes : (n + m) * bytes ≤ 140737488355328) (hbase : base ≤ w.heap.size) :
    ∃ v' w', (Builtin.append_ #[t, t] ty #[v, x]).run P w = .ok v' w' ∧ w'.ownsRow base e size v' (n + m) (xs ++ news) ∧ w.grownBy w' v.ownBlock ∧
      (v'.ownBlock = v.ownBlock ∨ v'.ownBlock = some w.heap.size) := by
  obtain ⟨A, c, rfl, -, -, hl, hc⟩ := hr
  rcases A with _ | ad
  · have hm : m = 0 := by
      rcases Nat.eq_zero_or_pos m with h0 | h0
      · exact h0
      · obtain ⟨ad, h, _⟩ := hc h0
        cases h
    subst hm
    have hn : news = [] := List.eq_nil_of_length_eq_zero (by simpa using hl)
    subst hn
    exact ⟨v, w, run_append_of_nil w base t ty e i size ht hi v n xs hown c, by simpa using hown, World.grownBy.refl w _, .inl rfl⟩
  · have hcells : ∀ j u, news[j]? = some u → w.cell? (ad.add j) = some u := by
      intro j u hu
      rcases Nat.eq_zero_or_pos m with h0 | h0
      · subst h0
        have hn : news = [] := List.eq_nil_of_length_eq_zero (by simpa using hl)
        subst hn
        simp at hu
      · obtain ⟨ad', h, _, hcc⟩ := hc h0
        injection h with h
        subst h
        exact hcc j u hu
    obtain ⟨v', w', hrun, h2, h3, _, h5⟩ := run_append_own_at (P := P) w base t ty e i z size bytes ht hi hz hsize hby hzs hsz v n xs hown ad m c news hl hcells h1 h63 hbytes hbase
    exact ⟨v', w', hrun, h2, h3, h5⟩
theorem wp_append_sl {o : Oper} {a : Act} {K : Act → World → Prop} {Q : Exit → Act → World → Prop} (s x : Operand) (t : TypeId)
    (ho : o.op = .call { callee := .builtin .append, args := #[s, x], argTypes := #[t, t] })
    (base : Nat) (e : TypeId) (i : TypeInfo) (z : Value) (size bytes : Nat) (ht : P.underlying t = some (.slice e)) (hi : P.info? e = some i) (hz : i.zero = some z)
    (hsize : i.size = size) (hby : i.bytes = bytes) (hzs : z.cells.size = size) (hsz : 0 < size)
    (v : Value) (n : Nat) (xs : List Value) (hs : a.eval s = v) (hown : w.ownsRow base e size v n xs)
    (u : Value) (m : Nat) (news : List Value) (hx : a.eval x = u) (hr : SL w size u m news) (h1 : ∀ u ∈ news, u.oneCell' = true)
    (h63 : n + m ≤ maxLen) (hbytes : (n + m) * bytes ≤ 140737488355328) (hbase : base ≤ w.heap.size)
    (h : ∀ v' w', w'.ownsRow base e size v' (n + m) (xs ++ news) → w.grownBy w' v.ownBlock → (v'.ownBlock = v.ownBlock ∨ v'.ownBlock = some w.heap.size) → K (a.put o.dst v') w') : o.wp P a w K Q := by
  obtain ⟨v', w', hrun, h2, h3, h4⟩ := run_append_sl (P := P) w base t o.type e i z size bytes ht hi hz hsize hby hzs hsz v n xs hown u m news hr h1 h63 hbytes hbase
  unfold Oper.wp execOp
  simp only [ho, resolve, invoke, builtin, Sem.run_bind, Sem.run_pure, Result.andThen_ok, List.map_toArray, List.map_cons, List.map_nil, hs, hx, hrun]
  exact h v' w' h2 h3 h4
/-- the words of one element type, said once -/
structure Elt (P : Program) (t e : TypeId) (size bytes : Nat) : Prop where
  ht : P.underlying t = some (.slice e)
  hi : (P.info? e).map (fun i => (i.zero.map fun z => z.cells.size, i.size, i.bytes)) = some (some size, size, bytes)
  hsz : 0 < size
variable {w}
theorem wpList_append_sl {ops : Array Oper} {rest : List Oper} {o : Oper} {a : Act} {Q : Exit → Act → World → Prop} {t e : TypeId} {size bytes : Nat} (he : Elt P t e size bytes) (hgd : o.guard = none) (s x : Operand)
    (ho : o.op = .call { callee := .builtin .append, args := #[s, x], argTypes := #[t, t] })
    (base : Nat) (v : Value) (n : Nat) (xs : List Value) (hs : a.eval s = v) (hown : w.ownsRow base e size v n xs)
    (u : Value) (m : Nat) (news : List Value) (hx : a.eval x = u) (hr : SL w size u m news) (h1 : ∀ u ∈ news, u.oneCell' = true)
    (h63 : n + m ≤ 9223372036854775807) (hbytes : (n + m) * bytes ≤ 140737488355328) (hbase : base ≤ w.heap.size)
    (h : ∀ v' w', w'.ownsRow base e size v' (n + m) (xs ++ news) → Below base w w' → wpList P ops Q rest (a.put o.dst v') w') : wpList P ops Q (o :: rest) a w := by
  obtain ⟨ht, hi, hsz⟩ := he
  cases hq : P.info? e with
  | none => simp [hq] at hi
  | some i =>
    cases hzq : i.zero with
    | none => simp [hq, hzq] at hi
    | some z =>
      have hi' : z.cells.size = size ∧ i.size = size ∧ i.bytes = bytes := by simpa [hq, hzq] using hi
      refine wpList_plain hgd fun _ hK => wp_append_sl w s x t ho base e i z size bytes ht hq hzq hi'.2.1 hi'.2.2 hi'.1 hsz v n xs hs hown u m news hx hr h1 (by unfold maxLen; omega) hbytes hbase fun v' w' h2 h3 h4 => hK _ _ (h v' w' h2 ?_)
      exact (Below.refl base w).grown h3 hbase (fun k hk => ((hown.lt k hk).1))
theorem wpList_append_slr {ops : Array Oper} {rest : List Oper} {o : Oper} {a : Act} {Q : Exit → Act → World → Prop} {t e : TypeId} {size bytes : Nat} (he : Elt P t e size bytes) (hgd : o.guard = none) (s x : Operand)
    (ho : o.op = .call { callee := .builtin .append, args := #[s, x], argTypes := #[t, t] })
    (base : Nat) (v : Value) (n : Nat) (xs : List Value) (hs : a.eval s = v) (hown : w.ownsRow base e size v n xs)
    (u : Value) (m : Nat) (news : List Value) (hx : a.eval x = u) (hr : SL w size u m news) (h1 : ∀ u ∈ news, u.oneCell' = true)
    (h63 : n + m ≤ 9223372036854775807) (hbytes : (n + m) * bytes ≤ 140737488355328) (hbase : base ≤ w.heap.size)
    (h : ∀ v' w', w'.ownsRow base e size v' (n + m) (xs ++ news) → w.grownBy w' v.ownBlock → (v'.ownBlock = v.ownBlock ∨ v'.ownBlock = some w.heap.size) → wpList P ops Q rest (a.put o.dst v') w') : wpList P ops Q (o :: rest) a w := by
  obtain ⟨ht, hi, hsz⟩ := he
  cases hq : P.info? e with
  | none => simp [hq] at hi
  | some i =>
    cases hzq : i.zero with
    | none => simp [hq, hzq] at hi
    | some z =>
      have hi' : z.cells.size = size ∧ i.size = size ∧ i.bytes = bytes := by simpa [hq, hzq] using hi
      refine wpList_plain hgd fun _ hK => wp_append_sl w s x t ho base e i z size bytes ht hq hzq hi'.2.1 hi'.2.2 hi'.1 hsz v n xs hs hown u m news hx hr h1 (by unfold maxLen; omega) hbytes hbase fun v' w' h2 h3 h4 => hK _ _ (h v' w' h2 h3 h4)
/-- the new slice's form written out -/
theorem wpList_append_slf {ops : Array Oper} {rest : List Oper} {o : Oper} {a : Act} {Q : Exit → Act → World → Prop} {t e : TypeId} {size bytes : Nat} (he : Elt P t e size bytes) (hgd : o.guard = none) (s x : Operand)
    (ho : o.op = .call { callee := .builtin .append, args := #[s, x], argTypes := #[t, t] })
    (base : Nat) (v : Value) (n : Nat) (xs : List Value) (hs : a.eval s = v) (hown : w.ownsRow base e size v n xs)
    (u : Value) (m : Nat) (news : List Value) (hx : a.eval x = u) (hr : SL w size u m news) (h1 : ∀ u ∈ news, u.oneCell' = true)
    (h63 : n + m ≤ 9223372036854775807) (hbytes : (n + m) * bytes ≤ 140737488355328) (hbase : base ≤ w.heap.size)
    (h : ∀ A c w', w'.ownsRow base e size (.slice A (n + m) c) (n + m) (xs ++ news) → w.grownBy w' v.ownBlock → (A.map (·.block) = v.ownBlock ∨ A.map (·.block) = some w.heap.size) → wpList P ops Q rest (a.put o.dst (.slice A (n + m) c)) w') : wpList P ops Q (o :: rest) a w :=
  wpList_append_slr he hgd s x ho base v n xs hs hown u m news hx hr h1 h63 hbytes hbase fun v' w' h2 h3 h4 => by
    have h2' := h2.2
    rcases h2' with ⟨rfl, h0⟩ | ⟨g, cap, cur, rfl, _⟩
    · have hz : n + m = 0 ∨ ¬ n + m = 0 := by omega
      have hl := h2.1
      rw [h0] at hl
      have h5 : n + m = 0 := by
        have := he.hsz
        rcases Nat.eq_zero_or_pos (n + m) with h6 | h6
        · exact h6
        · have := Nat.mul_pos h6 this
          simp at hl
          omega
      have key := h none 0 w'
      rw [h5] at key
      rw [h5] at h2
      exact key h2 h3 (by simpa [Value.ownBlock] using h4)
    · exact h _ _ w' h2 h3 (by simpa [Value.ownBlock] using h4)
end
/-- a row of the call's own, read as a slice -/
theorem own_sl {w : World} {base : Nat} {e : TypeId} {size n : Nat} {v : Value} {xs : List Value} (h : w.ownsRow base e size v n xs) : SL w size v n xs := by
  obtain ⟨hl, hh⟩ := h
  rcases hh with ⟨rfl, rfl⟩ | ⟨g, cap, cur, rfl, hb, hg, hn, hm, hc, hx⟩
  · have : xs = [] := List.eq_nil_of_length_eq_zero (by simpa using hl)
    subst this
    exact SL.nil w size
  · refine ⟨_, _, rfl, hn, by unfold maxLen at hm; omega, hl, fun _ => ⟨_, rfl, Blk.lt (w := w) (t := e) (cs := cur) hg, fun j u hu => ?_⟩⟩
    have hj : j < xs.length := (List.getElem?_eq_some_iff.1 hu).1
    have e1 : (⟨g, 0, none⟩ : Addr).add j = ⟨g, j, none⟩ := by
      unfold Addr.add
      by_cases h0 : j = 0
      · subst h0; rfl
      · rw [if_neg h0]; simp
    rw [e1, cell_of_row w g j cur e (0, 0) hg, ← hu, ← hx, List.getElem?_take_of_lt (by omega)]
    simp
theorem own_snoc {w : World} {base : Nat} {e : TypeId} {v : Value} {L : List Int} {z : Int} (h : w.ownsRow base e 1 v (L.length + 1) (ints L ++ [.int .i64 z])) : w.ownsRow base e 1 v (L ++ [z]).length (ints (L ++ [z])) := by
  simpa [ints] using h
theorem Ext.trans' {a w w' : World} (h : Ext a w) (k : Below a.heap.size w w') : Ext a w' := Below.trans h k
theorem int_one (z : Int) : ∀ u ∈ [Value.int .i64 z], u.oneCell' = true := by
  intro u hu
  simp at hu
  subst hu
  rfl
/-- the one cell that 'append(out, x)' lays first -/
theorem one_sl (w : World) (T : TypeId) (v : Value) : SL (w.alloc (.cells #[v] T)) 1 (.slice (some ⟨w.heap.size, 0, none⟩) 1 1) 1 [v] := by
  have := (Blk.new w T #[v]).sl (size := 1) (n := 1) (c := 1) rfl (by omega) (by omega)
  simpa using this
theorem own_form {w : World} {base : Nat} {e : TypeId} {size n : Nat} {v : Value} {xs : List Value} (h : w.ownsRow base e size v n xs) : ∃ A c, v = .slice A n c ∧ SL w size (.slice A n c) n xs ∧ ∀ ad, A = some ad → base ≤ ad.block := by
  have hs := own_sl h
  obtain ⟨hl, hh⟩ := h
  rcases hh with ⟨rfl, rfl⟩ | ⟨g, cap, cur, rfl, hb, hg, hn, hm, hc, hx⟩
  · exact ⟨none, 0, rfl, hs, by intro ad h; cases h⟩
  · exact ⟨some ⟨g, 0, none⟩, cap, rfl, hs, by intro ad h; injection h with h; subst h; exact hb⟩
theorem SL.far {w : World} {size n c : Nat} {A : Option Addr} {xs : List Value} (h : SL w size (.slice A n c) n xs) {p : Addr} (hne : ∀ ad, A = some ad → ad.block ≠ p.block) (u : Value) : SL (w.setCell p u) size (.slice A n c) n xs := by
  obtain ⟨A', c', e, h1, h1', h2, h3⟩ := h
  injection e with e1 e2 e3
  subst e1 e3
  refine ⟨A, c, rfl, h1, h1', h2, fun hn => ?_⟩
  obtain ⟨ad, ea, hlt, hc⟩ := h3 hn
  exact ⟨ad, ea, by simpa [World.setCell] using hlt, fun j u' hu => (World.cell?_setCell_other w p (ad.add j) u (fun e => hne ad ea (by rw [e, block_of_add]))).trans (hc j u' hu)⟩
end Go.Proofs.Ytkfdkkhhkciocaa
