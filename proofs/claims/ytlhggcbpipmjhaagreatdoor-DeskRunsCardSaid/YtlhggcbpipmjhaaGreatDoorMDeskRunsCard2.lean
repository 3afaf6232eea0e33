/- Contracts for the law DeskRunsCard, part 2: what the functions that it reaches answer, for all arguments that the theorems name. -/
import Derived.Shelf.Strings.Builder1
import Derived.Shelf.Strings.Builder2
import Derived.Shelf.Strings.OnBuilder
import Derived.Shelf.Small.Bits
import Derived.Shelf.Small.Wraps
import Derived.Shelf.Strconv.Atoi
import Derived.Shelf.Strconv.Itoa0
import Derived.Shelf.Strconv.Itoa1
import Derived.Shelf.LaysM
import Derived.Shelf.Strconv.Itoa2
import Derived.Shelf.Strconv.Itoa3
import Derived.Shelf.Strconv.AtoiErrFast
import Derived.Shelf.Strconv.ParseIntEmpty
import Derived.Shelf.Strconv.AtoiFail
import Derived.Shelf.Strconv.Clone
import Derived.Shelf.Strconv.SyntaxError
import Derived.Shelf.LaysC
import Derived.Shelf.Strconv.ToError
import Derived.Shelf.Strconv.Lower
import Derived.Shelf.Strconv.ParseUint10
import Derived.Shelf.Strconv.ParseUint10Empty
import Derived.Shelf.Strconv.ParseUint10Any
import Derived.Shelf.Strconv.ParseInt10
import Derived.Shelf.Strconv.AtoiLong
import Derived.Shelf.Strconv.AtoiInnerAll
import Derived.Shelf.Strconv.RangeError
import Derived.Shelf.Strconv.ToErrorRange
import Derived.Shelf.Strconv.AtoiAll
import Derived.Shelf.Strconv.ErrVarAll
import Derived.Shelf.Strings.Search1
import Derived.Shelf.Strings.Search2
import Derived.Shelf.Strings.Search3
import Derived.Shelf.Strings.Count
import Derived.Shelf.Strings.Shaped
import Derived.Shelf.Strings.Prefix
import Derived.Shelf.Strings.Split
import Derived.Shelf.Unicode.DecodeSlow
import Derived.Shelf.Unicode.DecodeAny
import Derived.Shelf.Strings.FieldsFuncAny
import Derived.Shelf.Strings.FieldsFuncGrows
import Derived.Test.YtlhggcbpipmjhaaGreatDoorProg
import Derived.Lib.BitFns
import Derived.Lib.ItoaNum
import Derived.Test.YtlhggcbpipmjhaaGreatDoorMDeskRunsCard1
import Derived.WalkKit
namespace Go.Proofs
open Go.Shelf
open Go.RowKit in

open Go.RowKit in

open Go.RowKit in

open Go.RowKit in

open Go.RowKit in

def Tryz.lays156_ren : Go.Shelf.Ren := ⟨fun | 156 => 94 | 165 => 126 | 166 => 127 | 169 => 128 | 240 => 146 | 241 => 147 | 276 => 155 | 277 => 156 | n => n, fun | 31 => 22 | 9 => 9 | 3 => 3 | 4 => 4 | 0 => 0 | 20 => 20 | 72 => 155 | 76 => 80 | 70 => 153 | 37 => 86 | 75 => 79 | 127 => 177 | 164 => 190 | 5 => 5 | 80 => 157 | n => n, fun | n => n⟩
theorem Tryz.lays156 : Go.Proofs.Lays.n156 Tryz.prog Tryz.lays156_ren := {
 mixed := by kernel_rfl
 f156 := Tryz.func94.trans (congrArg some (by kernel_rfl))
 f165 := Tryz.func126.trans (congrArg some (by kernel_rfl))
 f166 := Tryz.func127.trans (congrArg some (by kernel_rfl))
 f169 := Tryz.func128.trans (congrArg some (by kernel_rfl))
 f240 := Tryz.func146.trans (congrArg some (by kernel_rfl))
 f241 := Tryz.func147.trans (congrArg some (by kernel_rfl))
 f276 := Tryz.func155.trans (congrArg some (by kernel_rfl))
 f277 := Tryz.func156.trans (congrArg some (by kernel_rfl))
 t0 := Tryz.underlying0
 a0 := Tryz.isAgg0
 z0 := Tryz.sizeOf0
 v0 := Tryz.zeroValue0
 t3 := Tryz.underlying3
 a3 := Tryz.isAgg3
 z3 := Tryz.sizeOf3
 v3 := Tryz.zeroValue3
 t4 := Tryz.underlying4
 a4 := Tryz.isAgg4
 z4 := Tryz.sizeOf4
 v4 := Tryz.zeroValue4
 t9 := Tryz.underlying9
 a9 := Tryz.isAgg9
 z9 := Tryz.sizeOf9
 v9 := Tryz.zeroValue9
 t20 := Tryz.underlying20
 a20 := Tryz.isAgg20
 z20 := Tryz.sizeOf20
 v20 := Tryz.zeroValue20
 t31 := Tryz.underlying22
 a31 := Tryz.isAgg22
 z31 := Tryz.sizeOf22
 v31 := Tryz.zeroValue22
 t37 := Tryz.underlying86
 a37 := Tryz.isAgg86
 z37 := Tryz.sizeOf86
 v37 := Tryz.zeroValue86
 t70 := Tryz.underlying153
 a70 := Tryz.isAgg153
 z70 := Tryz.sizeOf153
 v70 := Tryz.zeroValue153
 t72 := Tryz.underlying155
 a72 := Tryz.isAgg155
 z72 := Tryz.sizeOf155
 v72 := Tryz.zeroValue155
 t75 := Tryz.underlying79
 a75 := Tryz.isAgg79
 z75 := Tryz.sizeOf79
 v75 := Tryz.zeroValue79
 t76 := Tryz.underlying80
 a76 := Tryz.isAgg80
 z76 := Tryz.sizeOf80
 v76 := Tryz.zeroValue80
 t127 := Tryz.underlying177
 a127 := Tryz.isAgg177
 z127 := Tryz.sizeOf177
 v127 := Tryz.zeroValue177
 t164 := Tryz.underlying190
 a164 := Tryz.isAgg190
 z164 := Tryz.sizeOf190
 v164 := Tryz.zeroValue190 }
theorem Tryz.Builder_Extra_156 : Builder.Extra Tryz.prog Tryz.lays156_ren := {
 sizeBuilder := by kernel_rfl
 liesBuilder := by kernel_rfl
 t5 := Tryz.underlying5
 a5 := Tryz.isAgg5
 z5 := Tryz.sizeOf5
 v5 := Tryz.zeroValue5
 infoByte := by kernel_rfl
 cellsByte := by kernel_rfl
 sizeByte := by kernel_rfl
 neB5 := by decide }
open Go.RowKit in

open Go.RowKit in

theorem Tryz.strings_Join (bk o c : Nat) (xs : List ByteArray) (sep : ByteArray) (w : World) (hcells : ∀ (j : Nat) x, xs[j]? = some x → w.cell? ⟨bk, o + j, none⟩ = some (.string x)) (hbk : bk < w.heap.size) (hN : xs.length ≤ 140737488355328) (hcap : xs.length ≤ c) (hlen : (Lib.join (xs.map (·.data.toList)) sep.data.toList).length ≤ 140737488355328) :
 Calls Tryz.prog 94 #[.slice (some ⟨bk, o, none⟩) xs.length c, .string sep] w fun e w' => e = .returned (.string ⟨(Lib.join (xs.map (·.data.toList)) sep.data.toList).toArray⟩) ∧ Below w.heap.size w w' := Any.strings_Join Tryz.lays156 Tryz.Builder_Extra_156 bk o c xs sep w hcells hbk hN hcap hlen
def Tryz.lays125_ren : Go.Shelf.Ren := ⟨fun | 125 => 102 | 128 => 132 | 129 => 116 | n => n, fun | 46 => 128 | 3 => 3 | 51 => 151 | 53 => 112 | 4 => 4 | 5 => 5 | 9 => 9 | n => n, fun | n => n⟩
theorem Tryz.lays125 : Go.Proofs.Lays.n125 Tryz.prog Tryz.lays125_ren := {
 mixed := by kernel_rfl
 f125 := Tryz.func102.trans (congrArg some (by kernel_rfl))
 f128 := Tryz.func132.trans (congrArg some (by kernel_rfl))
 f129 := Tryz.func116.trans (congrArg some (by kernel_rfl))
 t3 := Tryz.underlying3
 a3 := Tryz.isAgg3
 z3 := Tryz.sizeOf3
 v3 := Tryz.zeroValue3
 t4 := Tryz.underlying4
 a4 := Tryz.isAgg4
 z4 := Tryz.sizeOf4
 v4 := Tryz.zeroValue4
 t5 := Tryz.underlying5
 a5 := Tryz.isAgg5
 z5 := Tryz.sizeOf5
 v5 := Tryz.zeroValue5
 t9 := Tryz.underlying9
 a9 := Tryz.isAgg9
 z9 := Tryz.sizeOf9
 v9 := Tryz.zeroValue9
 t46 := Tryz.underlying128
 a46 := Tryz.isAgg128
 z46 := Tryz.sizeOf128
 v46 := Tryz.zeroValue128
 t51 := Tryz.underlying151
 a51 := Tryz.isAgg151
 z51 := Tryz.sizeOf151
 v51 := Tryz.zeroValue151
 t53 := Tryz.underlying112
 a53 := Tryz.isAgg112
 z53 := Tryz.sizeOf112
 v53 := Tryz.zeroValue112 }
theorem Tryz.bits_Len (x : Int) (w : World) (h0 : 0 ≤ x) (h1 : x ≤ 18446744073709551615) :
 Calls Tryz.prog 102 #[.int .u64 x] w fun e w' => e = .returned (.int .i64 (Lib.bitLen x.toNat)) ∧ w' = w := Any.bits_Len Tryz.lays125 x w h0 h1
open Go.RowKit in

open Go.RowKit in

open Go.RowKit in

open Go.RowKit in

open Go.Lib in

open Go.Lib in

open Go.Lib in

open Go.Lib in

open Go.RowKit Go.Sort Go.Lib in

open Go.RowKit Go.Sort Go.Lib in

open Go.RowKit Go.Sort Go.Lib in

open Go.RowKit Go.Sort Go.Lib in

open Go.RowKit Go.Sort Go.Lib in

def Tryz.laysM171_ren : Go.Shelf.Ren := ⟨fun | 171 => 8 | 243 => 16 | 246 => 52 | 283 => 84 | 284 => 85 | 285 => 86 | 286 => 87 | 129 => 116 | 317 => 115 | 318 => 117 | 319 => 118 | 320 => 119 | 337 => 142 | 338 => 143 | n => n, fun | 3 => 3 | 9 => 9 | 2 => 2 | 4 => 4 | 171 => 111 | 0 => 0 | 53 => 112 | 37 => 86 | 5 => 5 | 173 => 115 | 212 => 150 | 51 => 151 | 20 => 20 | 213 => 152 | 46 => 128 | 232 => 188 | 233 => 189 | n => n, fun | 17 => 0 | 18 => 6 | 19 => 7 | n => n⟩
theorem Tryz.laysM171 : Go.Proofs.LaysM.n171 Tryz.prog Tryz.laysM171_ren := {
 mixed := by kernel_rfl
 f129 := Tryz.func116.trans (congrArg some (by kernel_rfl))
 f171 := Tryz.func8.trans (congrArg some (by kernel_rfl))
 f243 := Tryz.func16.trans (congrArg some (by kernel_rfl))
 f246 := Tryz.func52.trans (congrArg some (by kernel_rfl))
 f283 := Tryz.func84.trans (congrArg some (by kernel_rfl))
 f284 := Tryz.func85.trans (congrArg some (by kernel_rfl))
 f285 := Tryz.func86.trans (congrArg some (by kernel_rfl))
 f286 := Tryz.func87.trans (congrArg some (by kernel_rfl))
 f317 := Tryz.func115.trans (congrArg some (by kernel_rfl))
 f318 := Tryz.func117.trans (congrArg some (by kernel_rfl))
 f319 := Tryz.func118.trans (congrArg some (by kernel_rfl))
 f320 := Tryz.func119.trans (congrArg some (by kernel_rfl))
 f337 := Tryz.func142.trans (congrArg some (by kernel_rfl))
 f338 := Tryz.func143.trans (congrArg some (by kernel_rfl))
 t0 := Tryz.underlying0
 a0 := Tryz.isAgg0
 z0 := Tryz.sizeOf0
 v0 := Tryz.zeroValue0
 t2 := Tryz.underlying2
 a2 := Tryz.isAgg2
 z2 := Tryz.sizeOf2
 v2 := Tryz.zeroValue2
 t3 := Tryz.underlying3
 a3 := Tryz.isAgg3
 z3 := Tryz.sizeOf3
 v3 := Tryz.zeroValue3
 t4 := Tryz.underlying4
 a4 := Tryz.isAgg4
 z4 := Tryz.sizeOf4
 v4 := Tryz.zeroValue4
 t5 := Tryz.underlying5
 a5 := Tryz.isAgg5
 z5 := Tryz.sizeOf5
 v5 := Tryz.zeroValue5
 t9 := Tryz.underlying9
 a9 := Tryz.isAgg9
 z9 := Tryz.sizeOf9
 v9 := Tryz.zeroValue9
 t20 := Tryz.underlying20
 a20 := Tryz.isAgg20
 z20 := Tryz.sizeOf20
 v20 := Tryz.zeroValue20
 t37 := Tryz.underlying86
 a37 := Tryz.isAgg86
 z37 := Tryz.sizeOf86
 v37 := Tryz.zeroValue86
 t46 := Tryz.underlying128
 a46 := Tryz.isAgg128
 z46 := Tryz.sizeOf128
 v46 := Tryz.zeroValue128
 t51 := Tryz.underlying151
 a51 := Tryz.isAgg151
 z51 := Tryz.sizeOf151
 v51 := Tryz.zeroValue151
 t53 := Tryz.underlying112
 a53 := Tryz.isAgg112
 z53 := Tryz.sizeOf112
 v53 := Tryz.zeroValue112
 t171 := Tryz.underlying111
 a171 := Tryz.isAgg111
 z171 := Tryz.sizeOf111
 v171 := Tryz.zeroValue111
 t173 := Tryz.underlying115
 a173 := Tryz.isAgg115
 z173 := Tryz.sizeOf115
 v173 := Tryz.zeroValue115
 t212 := Tryz.underlying150
 a212 := Tryz.isAgg150
 z212 := Tryz.sizeOf150
 v212 := Tryz.zeroValue150
 t213 := Tryz.underlying152
 a213 := Tryz.isAgg152
 z213 := Tryz.sizeOf152
 t232 := Tryz.underlying188
 a232 := Tryz.isAgg188
 z232 := Tryz.sizeOf188
 v232 := Tryz.zeroValue188
 t233 := Tryz.underlying189
 a233 := Tryz.isAgg189
 z233 := Tryz.sizeOf189
 v233 := Tryz.zeroValue189
 g17 := by kernel_rfl
 g18 := by kernel_rfl
 g19 := by kernel_rfl
 i0 := by kernel_rfl
 i2 := by kernel_rfl
 i3 := by kernel_rfl
 i4 := by kernel_rfl
 i5 := by kernel_rfl
 i9 := by kernel_rfl
 i20 := by kernel_rfl
 i37 := by kernel_rfl
 i46 := by kernel_rfl
 i51 := by kernel_rfl
 i53 := by kernel_rfl
 i171 := by kernel_rfl
 i173 := by kernel_rfl
 i212 := by kernel_rfl
 i232 := by kernel_rfl
 i233 := by kernel_rfl
 m17 := by kernel_rfl
 m18 := by kernel_rfl
 m19 := by kernel_rfl }
open Go.RowKit Go.Sort Go.Lib in

theorem Tryz.strconv_Itoa (n : Int) (h0 : -9223372036854775808 ≤ n) (h1 : n ≤ 9223372036854775807) (w : World) (htab : Lib.TabIs Tryz.prog w "internal/strconv.uint64pow10" .u64 Lib.pow10Tab) :
 Calls Tryz.prog 8 #[.int .i64 n] w fun e w' => e = .returned (.string ⟨(Lib.itoa n).toArray⟩) ∧ ∃ k os, w' = grow (w.drewN k) os := Any.strconv_Itoa Tryz.laysM171 n h0 h1 w htab
open Go.RowKit Go.Sort Go.Lib in

open Go.RowKit in

open Go.RowKit in

open Go.RowKit in

open Go.RowKit in

open Go.RowKit in

open Go.RowKit in

open Go.RowKit in

open Go.RowKit in

open Go.RowKit in

open Go.RowKit in

open Go.RowKit in

open Go.RowKit in

open Go.RowKit in

open Go.RowKit in

open Go.RowKit in

open Go.RowKit in

def Tryz.laysC172_ren : Go.Shelf.Ren := ⟨fun | 172 => 50 | 244 => 81 | 245 => 82 | 247 => 109 | 279 => 110 | 280 => 111 | 281 => 112 | 282 => 113 | 287 => 139 | 316 => 140 | 171 => 8 | 205 => 141 | 321 => 153 | 322 => 154 | 243 => 16 | 246 => 52 | 283 => 84 | 284 => 85 | 285 => 86 | 286 => 87 | 129 => 116 | 317 => 115 | 318 => 117 | 319 => 118 | 320 => 119 | 337 => 142 | 338 => 143 | n => n, fun | 9 => 9 | 3 => 3 | 75 => 79 | 76 => 80 | 4 => 4 | 5 => 5 | 167 => 142 | 37 => 86 | 0 => 0 | 85 => 143 | 2 => 2 | 168 => 145 | 53 => 112 | 175 => 165 | 46 => 128 | 210 => 169 | 127 => 177 | 145 => 187 | 143 => 185 | 21 => 21 | 171 => 111 | 173 => 115 | 212 => 150 | 51 => 151 | 20 => 20 | 213 => 152 | 232 => 188 | 233 => 189 | 80 => 157 | n => n, fun | 15 => 2 | 16 => 3 | 17 => 0 | 18 => 6 | 19 => 7 | n => n⟩
theorem Tryz.laysC172 : Go.Proofs.LaysC.n172 Tryz.prog Tryz.laysC172_ren := {
 mixed := by kernel_rfl
 f129 := Tryz.func116.trans (congrArg some (by kernel_rfl))
 f171 := Tryz.func8.trans (congrArg some (by kernel_rfl))
 f172 := Tryz.func50.trans (congrArg some (by kernel_rfl))
 f205 := Tryz.func141.trans (congrArg some (by kernel_rfl))
 f243 := Tryz.func16.trans (congrArg some (by kernel_rfl))
 f244 := Tryz.func81.trans (congrArg some (by kernel_rfl))
 f245 := Tryz.func82.trans (congrArg some (by kernel_rfl))
 f246 := Tryz.func52.trans (congrArg some (by kernel_rfl))
 f247 := Tryz.func109.trans (congrArg some (by kernel_rfl))
 f279 := Tryz.func110.trans (congrArg some (by kernel_rfl))
 f280 := Tryz.func111.trans (congrArg some (by kernel_rfl))
 f281 := Tryz.func112.trans (congrArg some (by kernel_rfl))
 f282 := Tryz.func113.trans (congrArg some (by kernel_rfl))
 f283 := Tryz.func84.trans (congrArg some (by kernel_rfl))
 f284 := Tryz.func85.trans (congrArg some (by kernel_rfl))
 f285 := Tryz.func86.trans (congrArg some (by kernel_rfl))
 f286 := Tryz.func87.trans (congrArg some (by kernel_rfl))
 f287 := Tryz.func139.trans (congrArg some (by kernel_rfl))
 f316 := Tryz.func140.trans (congrArg some (by kernel_rfl))
 f317 := Tryz.func115.trans (congrArg some (by kernel_rfl))
 f318 := Tryz.func117.trans (congrArg some (by kernel_rfl))
 f319 := Tryz.func118.trans (congrArg some (by kernel_rfl))
 f320 := Tryz.func119.trans (congrArg some (by kernel_rfl))
 f321 := Tryz.func153.trans (congrArg some (by kernel_rfl))
 f322 := Tryz.func154.trans (congrArg some (by kernel_rfl))
 f337 := Tryz.func142.trans (congrArg some (by kernel_rfl))
 f338 := Tryz.func143.trans (congrArg some (by kernel_rfl))
 t0 := Tryz.underlying0
 a0 := Tryz.isAgg0
 z0 := Tryz.sizeOf0
 v0 := Tryz.zeroValue0
 t2 := Tryz.underlying2
 a2 := Tryz.isAgg2
 z2 := Tryz.sizeOf2
 v2 := Tryz.zeroValue2
 t3 := Tryz.underlying3
 a3 := Tryz.isAgg3
 z3 := Tryz.sizeOf3
 v3 := Tryz.zeroValue3
 t4 := Tryz.underlying4
 a4 := Tryz.isAgg4
 z4 := Tryz.sizeOf4
 v4 := Tryz.zeroValue4
 t5 := Tryz.underlying5
 a5 := Tryz.isAgg5
 z5 := Tryz.sizeOf5
 v5 := Tryz.zeroValue5
 t9 := Tryz.underlying9
 a9 := Tryz.isAgg9
 z9 := Tryz.sizeOf9
 v9 := Tryz.zeroValue9
 t20 := Tryz.underlying20
 a20 := Tryz.isAgg20
 z20 := Tryz.sizeOf20
 v20 := Tryz.zeroValue20
 t21 := Tryz.underlying21
 a21 := Tryz.isAgg21
 z21 := Tryz.sizeOf21
 v21 := Tryz.zeroValue21
 t37 := Tryz.underlying86
 a37 := Tryz.isAgg86
 z37 := Tryz.sizeOf86
 v37 := Tryz.zeroValue86
 t46 := Tryz.underlying128
 a46 := Tryz.isAgg128
 z46 := Tryz.sizeOf128
 v46 := Tryz.zeroValue128
 t51 := Tryz.underlying151
 a51 := Tryz.isAgg151
 z51 := Tryz.sizeOf151
 v51 := Tryz.zeroValue151
 t53 := Tryz.underlying112
 a53 := Tryz.isAgg112
 z53 := Tryz.sizeOf112
 v53 := Tryz.zeroValue112
 t75 := Tryz.underlying79
 a75 := Tryz.isAgg79
 z75 := Tryz.sizeOf79
 v75 := Tryz.zeroValue79
 t76 := Tryz.underlying80
 a76 := Tryz.isAgg80
 z76 := Tryz.sizeOf80
 v76 := Tryz.zeroValue80
 t85 := Tryz.underlying143
 a85 := Tryz.isAgg143
 z85 := Tryz.sizeOf143
 v85 := Tryz.zeroValue143
 t127 := Tryz.underlying177
 a127 := Tryz.isAgg177
 z127 := Tryz.sizeOf177
 v127 := Tryz.zeroValue177
 t143 := Tryz.underlying185
 a143 := Tryz.isAgg185
 z143 := Tryz.sizeOf185
 v143 := Tryz.zeroValue185
 t145 := Tryz.underlying187
 a145 := Tryz.isAgg187
 z145 := Tryz.sizeOf187
 v145 := Tryz.zeroValue187
 t167 := Tryz.underlying142
 a167 := Tryz.isAgg142
 z167 := Tryz.sizeOf142
 v167 := Tryz.zeroValue142
 t168 := Tryz.underlying145
 a168 := Tryz.isAgg145
 z168 := Tryz.sizeOf145
 v168 := Tryz.zeroValue145
 t171 := Tryz.underlying111
 a171 := Tryz.isAgg111
 z171 := Tryz.sizeOf111
 v171 := Tryz.zeroValue111
 t173 := Tryz.underlying115
 a173 := Tryz.isAgg115
 z173 := Tryz.sizeOf115
 v173 := Tryz.zeroValue115
 t175 := Tryz.underlying165
 a175 := Tryz.isAgg165
 z175 := Tryz.sizeOf165
 v175 := Tryz.zeroValue165
 t210 := Tryz.underlying169
 a210 := Tryz.isAgg169
 z210 := Tryz.sizeOf169
 v210 := Tryz.zeroValue169
 t212 := Tryz.underlying150
 a212 := Tryz.isAgg150
 z212 := Tryz.sizeOf150
 v212 := Tryz.zeroValue150
 t213 := Tryz.underlying152
 a213 := Tryz.isAgg152
 z213 := Tryz.sizeOf152
 t232 := Tryz.underlying188
 a232 := Tryz.isAgg188
 z232 := Tryz.sizeOf188
 v232 := Tryz.zeroValue188
 t233 := Tryz.underlying189
 a233 := Tryz.isAgg189
 z233 := Tryz.sizeOf189
 v233 := Tryz.zeroValue189
 g15 := by kernel_rfl
 g16 := by kernel_rfl
 g17 := by kernel_rfl
 g18 := by kernel_rfl
 g19 := by kernel_rfl
 t80 := Tryz.underlying157
 a80 := Tryz.isAgg157
 z80 := Tryz.sizeOf157
 v80 := Tryz.zeroValue157
 i0 := by kernel_rfl
 i2 := by kernel_rfl
 i3 := by kernel_rfl
 i4 := by kernel_rfl
 i5 := by kernel_rfl
 i9 := by kernel_rfl
 i20 := by kernel_rfl
 i21 := by kernel_rfl
 i37 := by kernel_rfl
 i46 := by kernel_rfl
 i51 := by kernel_rfl
 i53 := by kernel_rfl
 i75 := by kernel_rfl
 i76 := by kernel_rfl
 i80 := by kernel_rfl
 i85 := by kernel_rfl
 i127 := by kernel_rfl
 i143 := by kernel_rfl
 i145 := by kernel_rfl
 i167 := by kernel_rfl
 i168 := by kernel_rfl
 i171 := by kernel_rfl
 i173 := by kernel_rfl
 i175 := by kernel_rfl
 i210 := by kernel_rfl
 i212 := by kernel_rfl
 i232 := by kernel_rfl
 i233 := by kernel_rfl
 m15 := by kernel_rfl
 m16 := by kernel_rfl
 m17 := by kernel_rfl
 m18 := by kernel_rfl
 m19 := by kernel_rfl
 c0 := by kernel_rfl
 c2 := by kernel_rfl
 c3 := by kernel_rfl
 c4 := by kernel_rfl
 c5 := by kernel_rfl
 c9 := by kernel_rfl
 c20 := by kernel_rfl
 c21 := by kernel_rfl
 c37 := by kernel_rfl
 c46 := by kernel_rfl
 c51 := by kernel_rfl
 c53 := by kernel_rfl
 c75 := by kernel_rfl
 c76 := by kernel_rfl
 c80 := by kernel_rfl
 c85 := by kernel_rfl
 c127 := by kernel_rfl
 c143 := by kernel_rfl
 c145 := by kernel_rfl
 c167 := by kernel_rfl
 c168 := by kernel_rfl
 c171 := by kernel_rfl
 c173 := by kernel_rfl
 c175 := by kernel_rfl
 c210 := by kernel_rfl
 c212 := by kernel_rfl
 c213 := by kernel_rfl
 c232 := by kernel_rfl
 c233 := by kernel_rfl }
open Go.RowKit in

theorem Tryz.strconv_Atoi_ok (s : ByteArray) (hmax : s.size ≤ 9223372036854775806) (v : Int) (h : Lib.atoiAll s.data.toList = .ok v) (w : World) :
 Calls Tryz.prog 50 #[.string s] w fun e w' => e = .returned (.tuple #[.int .i64 v, .nilIface]) ∧ (w' = w ∨ ∃ t, w' = Lib.bytesWorld w 5 t) := Any.strconv_Atoi_ok Tryz.laysC172 s hmax v h w
open Go.RowKit in

open Go.RowKit in

open Go.RowKit in
theorem Tryz.strconv_Atoi_range_var (s : ByteArray) (hlim : s.size ≤ 281474976710656) (h : Lib.atoiAll s.data.toList = .range) (tp : TypeId) (p : Value) (w : World) (hvar : w.var? Tryz.prog "strconv.ErrRange" = some #[.iface tp p]) :
 Calls Tryz.prog 50 #[.string s] w fun e w' => ∃ N, e = .returned (.tuple #[.int .i64 (Lib.atoiSat s.data.toList), .iface 145 (.pointer (some ⟨N, 0, none⟩))]) ∧ w.heap.size ≤ N ∧ w'.heap[N]? = some (.cells #[.string ⟨#[65, 116, 111, 105]⟩, .string s, .iface tp p] 169 (0, 0)) ∧ Below w.heap.size w w' := Any.strconv_Atoi_range_var Tryz.laysC172 s hlim h tp p w hvar
open Go.RowKit Go.Lib in

open Go.RowKit Go.Lib in

open Go.RowKit Go.Lib in

open Go.RowKit Go.Lib in

open Go.RowKit Go.Lib in

open Go.RowKit Go.Lib in

open Go.RowKit Go.Lib in

open Go.RowKit Go.Lib in

open Go.RowKit Go.Lib in

open Go.RowKit Go.Lib in

open Go.RowKit Go.Lib in

def Tryz.lays101_ren : Go.Shelf.Ren := ⟨fun | 101 => 51 | 208 => 83 | 206 => 114 | n => n, fun | 9 => 9 | 4 => 4 | 3 => 3 | n => n, fun | n => n⟩
theorem Tryz.lays101 : Go.Proofs.Lays.n101 Tryz.prog Tryz.lays101_ren := {
 mixed := by kernel_rfl
 f101 := Tryz.func51.trans (congrArg some (by kernel_rfl))
 f206 := Tryz.func114.trans (congrArg some (by kernel_rfl))
 f208 := Tryz.func83.trans (congrArg some (by kernel_rfl))
 t3 := Tryz.underlying3
 a3 := Tryz.isAgg3
 z3 := Tryz.sizeOf3
 v3 := Tryz.zeroValue3
 t4 := Tryz.underlying4
 a4 := Tryz.isAgg4
 z4 := Tryz.sizeOf4
 v4 := Tryz.zeroValue4
 t9 := Tryz.underlying9
 a9 := Tryz.isAgg9
 z9 := Tryz.sizeOf9
 v9 := Tryz.zeroValue9 }
open Go.RowKit Go.Lib in

theorem Tryz.strings_TrimPrefix (s p : ByteArray) (w : World) :
 Calls Tryz.prog 51 #[.string s, .string p] w fun e w' => e = .returned (.string ⟨(Lib.trimPrefix s.data.toList p.data.toList).toArray⟩) ∧ w' = w := Any.strings_TrimPrefix Tryz.lays101 s p w
open Go.RowKit Go.Lib in

def Tryz.lays146_ren : Go.Shelf.Ren := ⟨fun | 146 => 9 | 221 => 17 | 268 => 53 | 138 => 54 | 143 => 55 | 195 => 88 | 197 => 89 | 218 => 90 | 219 => 91 | 260 => 120 | 217 => 121 | 225 => 122 | 224 => 123 | 267 => 124 | 266 => 144 | 314 => 145 | n => n, fun | 9 => 9 | 31 => 22 | 3 => 3 | 4 => 4 | 0 => 0 | 105 => 118 | 21 => 21 | 5 => 5 | 46 => 128 | 119 => 171 | 139 => 174 | 138 => 173 | 146 => 175 | 51 => 151 | n => n, fun | 1 => 1 | 3 => 4 | 4 => 5 | n => n⟩
theorem Tryz.lays146 : Go.Proofs.Lays.n146 Tryz.prog Tryz.lays146_ren := {
 mixed := by kernel_rfl
 f138 := Tryz.func54.trans (congrArg some (by kernel_rfl))
 f143 := Tryz.func55.trans (congrArg some (by kernel_rfl))
 f146 := Tryz.func9.trans (congrArg some (by kernel_rfl))
 f195 := Tryz.func88.trans (congrArg some (by kernel_rfl))
 f197 := Tryz.func89.trans (congrArg some (by kernel_rfl))
 f217 := Tryz.func121.trans (congrArg some (by kernel_rfl))
 f218 := Tryz.func90.trans (congrArg some (by kernel_rfl))
 f219 := Tryz.func91.trans (congrArg some (by kernel_rfl))
 f221 := Tryz.func17.trans (congrArg some (by kernel_rfl))
 f224 := Tryz.func123.trans (congrArg some (by kernel_rfl))
 f225 := Tryz.func122.trans (congrArg some (by kernel_rfl))
 f260 := Tryz.func120.trans (congrArg some (by kernel_rfl))
 f266 := Tryz.func144.trans (congrArg some (by kernel_rfl))
 f267 := Tryz.func124.trans (congrArg some (by kernel_rfl))
 f268 := Tryz.func53.trans (congrArg some (by kernel_rfl))
 f314 := Tryz.func145.trans (congrArg some (by kernel_rfl))
 t0 := Tryz.underlying0
 a0 := Tryz.isAgg0
 z0 := Tryz.sizeOf0
 v0 := Tryz.zeroValue0
 t3 := Tryz.underlying3
 a3 := Tryz.isAgg3
 z3 := Tryz.sizeOf3
 v3 := Tryz.zeroValue3
 t4 := Tryz.underlying4
 a4 := Tryz.isAgg4
 z4 := Tryz.sizeOf4
 v4 := Tryz.zeroValue4
 t5 := Tryz.underlying5
 a5 := Tryz.isAgg5
 z5 := Tryz.sizeOf5
 v5 := Tryz.zeroValue5
 t9 := Tryz.underlying9
 a9 := Tryz.isAgg9
 z9 := Tryz.sizeOf9
 v9 := Tryz.zeroValue9
 t21 := Tryz.underlying21
 a21 := Tryz.isAgg21
 z21 := Tryz.sizeOf21
 v21 := Tryz.zeroValue21
 t31 := Tryz.underlying22
 a31 := Tryz.isAgg22
 z31 := Tryz.sizeOf22
 v31 := Tryz.zeroValue22
 t46 := Tryz.underlying128
 a46 := Tryz.isAgg128
 z46 := Tryz.sizeOf128
 v46 := Tryz.zeroValue128
 t51 := Tryz.underlying151
 a51 := Tryz.isAgg151
 z51 := Tryz.sizeOf151
 v51 := Tryz.zeroValue151
 t105 := Tryz.underlying118
 a105 := Tryz.isAgg118
 z105 := Tryz.sizeOf118
 v105 := Tryz.zeroValue118
 t119 := Tryz.underlying171
 a119 := Tryz.isAgg171
 z119 := Tryz.sizeOf171
 t138 := Tryz.underlying173
 a138 := Tryz.isAgg173
 z138 := Tryz.sizeOf173
 v138 := Tryz.zeroValue173
 t139 := Tryz.underlying174
 a139 := Tryz.isAgg174
 z139 := Tryz.sizeOf174
 v139 := Tryz.zeroValue174
 t146 := Tryz.underlying175
 a146 := Tryz.isAgg175
 z146 := Tryz.sizeOf175
 v146 := Tryz.zeroValue175
 g1 := by kernel_rfl
 g3 := by kernel_rfl
 g4 := by kernel_rfl }
open Go.RowKit Go.Lib in

theorem Tryz.strings_Split (s sep : ByteArray) (m : Int) (w : World) (hs : s.size < 4294967281) (hm : w.cell? ⟨1, 0, none⟩ = some (.int .i64 m)) (h1 : 1 ≤ sep.size) :
 Calls Tryz.prog 9 #[.string s, .string sep] w fun e w' =>
  e = .returned (.slice (some ⟨w.heap.size, 0, none⟩) (Lib.countB s sep + 1) (Lib.countB s sep + 1)) ∧ w' = w.alloc (.cells ((Lib.splitB sep 0 (Lib.countB s sep) s).map Value.string).toArray 9) := Any.strings_Split Tryz.lays146 (by kernel_rfl) s sep m w hs hm h1
open Go.RowKit Go.Lib in

def Tryz.lays229_ren : Go.Shelf.Ren := ⟨fun | 229 => 12 | n => n, fun | 9 => 9 | 40 => 40 | 31 => 22 | 152 => 70 | 3 => 3 | 0 => 0 | 4 => 4 | 21 => 21 | 154 => 72 | n => n, fun | n => n⟩
theorem Tryz.lays229 : Go.Proofs.Lays.n229 Tryz.prog Tryz.lays229_ren := {
 mixed := by kernel_rfl
 f229 := Tryz.func12.trans (congrArg some (by kernel_rfl))
 t0 := Tryz.underlying0
 a0 := Tryz.isAgg0
 z0 := Tryz.sizeOf0
 v0 := Tryz.zeroValue0
 t3 := Tryz.underlying3
 a3 := Tryz.isAgg3
 z3 := Tryz.sizeOf3
 v3 := Tryz.zeroValue3
 t4 := Tryz.underlying4
 a4 := Tryz.isAgg4
 z4 := Tryz.sizeOf4
 v4 := Tryz.zeroValue4
 t9 := Tryz.underlying9
 a9 := Tryz.isAgg9
 z9 := Tryz.sizeOf9
 v9 := Tryz.zeroValue9
 t21 := Tryz.underlying21
 a21 := Tryz.isAgg21
 z21 := Tryz.sizeOf21
 v21 := Tryz.zeroValue21
 t31 := Tryz.underlying22
 a31 := Tryz.isAgg22
 z31 := Tryz.sizeOf22
 v31 := Tryz.zeroValue22
 t40 := Tryz.underlying40
 a40 := Tryz.isAgg40
 z40 := Tryz.sizeOf40
 v40 := Tryz.zeroValue40
 t152 := Tryz.underlying70
 a152 := Tryz.isAgg70
 z152 := Tryz.sizeOf70
 v152 := Tryz.zeroValue70
 t154 := Tryz.underlying72
 a154 := Tryz.isAgg72
 z154 := Tryz.sizeOf72
 v154 := Tryz.zeroValue72 }
open Go.RowKit Go.Lib in

open Go.RowKit Go.Lib in
theorem Tryz.strings_FieldsFunc_grows (g : Nat) (lb : Array Value) (eg : ∀ args w, (callFunc g args).run Tryz.prog w = .ok (.enter g args) w) (p : Nat → Bool) (s : ByteArray) (w : World) (hs : s.size ≤ 4294967296) (hp : PredGrows Tryz.prog g lb p w) :
 Calls Tryz.prog 12 #[.string s, .func (.func g) #[] lb] w fun e w' => ∃ A, e = .returned (.slice (some ⟨A, 0, none⟩) (Lib.goFieldsP p s).length (Lib.goFieldsP p s).length) ∧ w.heap.size ≤ A ∧
  w'.ownsRow w.heap.size 9 1 (.slice (some ⟨A, 0, none⟩) (Lib.goFieldsP p s).length (Lib.goFieldsP p s).length) (Lib.goFieldsP p s).length ((Lib.goFieldsP p s).map Value.string) ∧ Below w.heap.size w w' := Any.strings_FieldsFunc_grows Tryz.lays229 g lb eg p s w hs hp (by kernel_rfl) (by kernel_rfl)
end Go.Proofs
namespace Go.Proofs.YtlhggcbpipmjhaaGreatDoor
set_option linter.unusedVariables false
set_option linter.unusedSimpArgs false
open Go.RowKit
theorem calls_back {P : Program} {f : FuncId} {args : Array Value} {w : World} {v : Value} (h : Calls P f args w fun e w' => e = .returned v ∧ w' = w) : Calls P f args w fun e w' => e = .returned v ∧ w = w' :=
 h.mono fun _ _ ⟨a, b⟩ => ⟨a, b.symm⟩
def szN (n : Int) : Nat := Lib.bitLen n.natAbs
theorem szN_spec (n : Int) (h1 : -4095 ≤ n) (h2 : n ≤ 4095) : szN n ≤ 12 ∧ n.natAbs < 2 ^ szN n ∧ (n ≠ 0 → 1 ≤ szN n ∧ 2 ^ (szN n - 1) ≤ n.natAbs) := by
 have hb : n.natAbs < 2 ^ 12 := by omega
 refine ⟨Lib.bitLen_le _ 12 (by omega) hb, ?_, fun h0 => ?_⟩
 ·by_cases h0 : n = 0
  ·subst h0; decide
  ·exact (Lib.bitLenAux_bounds 64 n.natAbs (by omega) (by omega)).2.2
 ·have := Lib.bitLenAux_bounds 64 n.natAbs (by omega) (by omega)
  exact ⟨this.1, this.2.1⟩
theorem szN_uniq (n : Int) (h1 : -4095 ≤ n) (h2 : n ≤ 4095) (k : Nat) (ha : n.natAbs < 2 ^ k) (hb : ∀ j, j < k → 2 ^ j ≤ n.natAbs) : k = szN n := by
 obtain ⟨-, g2, g3⟩ := szN_spec n h1 h2
 rcases Nat.lt_trichotomy k (szN n) with h | h | h
 ·by_cases h0 : n = 0
  ·subst h0
   have : szN 0 = 0 := by decide
   omega
  ·have := (g3 h0).2
   have := Nat.pow_le_pow_right (n := 2) (by omega) (show k ≤ szN n - 1 by omega)
   omega
 ·exact h
 ·have := hb (szN n) h
  omega
def bitsZ (n : Int) : Int × Int × Int := if -4095 ≤ n ∧ n ≤ 4095 then (szN n, if n < 0 then n + 2 ^ szN n - 1 else n, 0) else (0, 0, 1)
set_option maxHeartbeats 400000 in
theorem sizeBits_any (n : Int) (w : World) : Calls Tryz.prog 76 #[.int .i64 n] w fun e w' => e = .returned (.tuple #[.int .i64 (bitsZ n).1, .int .i64 (bitsZ n).2.1, .int .i64 (bitsZ n).2.2]) ∧ w = w' := by
 by_cases hin : -4095 ≤ n ∧ n ≤ 4095
 ·obtain ⟨h1, h2⟩ := hin
  obtain ⟨g1, -, -⟩ := szN_spec n h1 h2
  have hl := hid_ (fun W => calls_back (Tryz.bits_Len n.natAbs W (by omega) (by omega)))
  have hf : bitsZ n = ((szN n : Int), (if n < 0 then n + 2 ^ szN n - 1 else n), (0 : Int)) := by unfold bitsZ; rw [if_pos ⟨h1, h2⟩]
  rw [hf]
  have hsz : Lib.bitLen ((n.natAbs : Int)).toNat = szN n := by simp [szN]
  have hmx : (n.natAbs : Int) = max n (-n) := by omega
  rw [hsz, hmx] at hl
  clear hf hsz hmx
  have p1 := pow_le (szN n) 12 g1
  have p2 := pow_pos' (szN n)
  have p3 : (2 : Int) ^ 12 = 4096 := by decide
  rw [p3] at p1
  clear p3
  generalize szN n = s at *
  by_cases hn : n < 0
  ·rw [if_pos hn]
   go_enter Tryz.func76, Tryz.ntmps76
   go_wp2_with (go_at_call 102; refine (hl.out _).mono ?_; rintro e w' ⟨rfl, rfl⟩)
   refine bodyPost_ret (results_tmp3 rfl _ _ _) rfl ?_
   refine ⟨?_, rfl⟩
   have e : n + ((2 : Int) ^ s - 1) = n + 2 ^ s - 1 := by omega
   show Ending.returned (Value.tuple #[Value.int .i64 s, Value.int .i64 (n + ((2 : Int) ^ s - 1)), Value.int .i64 0]) = _
   rw [e]
  ·rw [if_neg hn]
   go_enter Tryz.func76, Tryz.ntmps76
   go_wp2_with (go_at_call 102; refine (hl.out _).mono ?_; rintro e w' ⟨rfl, rfl⟩)
   refine bodyPost_ret (results_tmp3 rfl _ _ _) rfl ?_
   exact ⟨rfl, rfl⟩
 ·have hf : bitsZ n = (0, 0, 1) := by unfold bitsZ; rw [if_neg hin]
  rw [hf]
  clear hf
  by_cases hn : n ≤ -4096
  ·have hd : decide (n ≤ -4096) = true := by simpa using hn
   clear hin
   go_enter Tryz.func76, Tryz.ntmps76
   go_wp2_with fail
   refine bodyPost_ret (results_tmp3 rfl _ _ _) rfl ?_
   exact ⟨rfl, rfl⟩
  ·have hd : decide (n ≤ -4096) = false := by simpa using hn
   have h4 : 4096 ≤ n := by omega
   clear hin
   go_enter Tryz.func76, Tryz.ntmps76
   go_wp2_with fail
   refine bodyPost_ret (results_tmp3 rfl _ _ _) rfl ?_
   exact ⟨rfl, rfl⟩
set_option maxHeartbeats 400000 in
theorem rsizeBits_any (n : Int) (w : World) : Calls Tryz.prog 23 #[.int .i64 n] w fun e w' => e = .returned (.tuple #[.int .i64 (bitsZ n).1, .int .i64 (bitsZ n).2.1, .int .i64 (bitsZ n).2.2]) ∧ w = w' := by
 by_cases hin : -4095 ≤ n ∧ n ≤ 4095
 ·have hb := inB_iff.2 hin
  obtain ⟨h1, h2⟩ := hin
  have HS := hid_ (szN_spec n h1 h2)
  have HU := hid_ (szN_uniq n h1 h2)
  have hf : bitsZ n = ((szN n : Int), (if n < 0 then n + 2 ^ szN n - 1 else n), (0 : Int)) := by unfold bitsZ; rw [if_pos ⟨h1, h2⟩]
  have HF := hid_ hf
  have HM : Hid ((n.natAbs : Int) = max n (-n)) := hid_ (by omega)
  clear hf
  go_enter Tryz.func23, Tryz.ntmps23
  go_wp2_with (go_at_call 20; refine (outside_any _ _ _ _).mono ?_; rintro e w' ⟨rfl, rfl⟩)
  go_loop [5] (fun i => ∃ k : Nat, k ≤ szN n ∧ i = .int .i64 k) (fun i => 13 - (intOf i).toNat)
  case atStart => exact ⟨0, by omega, rfl⟩
  case round =>
   obtain ⟨k, hk, rfl⟩ := hrel
   have hk12 : k ≤ 12 := by have := HS.out.1; omega
   have p1 := pow_le k 12 hk12
   have p2 := pow_pos' k
   have p3 : (2 : Int) ^ 12 = 4096 := by decide
   rw [p3] at p1
   clear p3
   by_cases hlt : (2 : Int) ^ k ≤ max n (-n)
   ·have hks : k < szN n := by
     rcases Nat.lt_or_ge k (szN n) with h | h
     ·exact h
     ·have e : k = szN n := by omega
      have h9 := HS.out.2.1
      have h8 := HM.out
      rw [← e] at h9
      have h7 : (n.natAbs : Int) < 2 ^ k := by exact_mod_cast h9
      omega
    go_wp2_with (go_at_call 59; refine (power_any _ _ (by omega)).mono ?_; rintro e w' ⟨rfl, rfl⟩)
    go_round
    case rel => exact ⟨k + 1, by omega, by go_num⟩
    case measure => simp [intOf]; omega
   ·have hks : k = szN n := by
     have h8 := HM.out
     have h7 : (n.natAbs : Int) < 2 ^ k := by omega
     have h6 : n.natAbs < 2 ^ k := by exact_mod_cast h7
     rcases Nat.lt_or_ge k (szN n) with h | h
     ·have h9 := HS.out.2.2
      by_cases h0 : n = 0
      ·subst h0
       have : szN 0 = 0 := by decide
       omega
      ·have h5 := (h9 h0).2
       have := Nat.pow_le_pow_right (n := 2) (by omega) (show k ≤ szN n - 1 by omega)
       omega
     ·omega
    have HK := hid_ hks
    clear hks
    by_cases hn : n < 0
    ·go_wp2_with (go_at_call 59; refine (power_any _ _ (by omega)).mono ?_; rintro e w' ⟨rfl, rfl⟩)
     refine bodyPost_ret (results_tmp3 rfl _ _ _) rfl ?_
     refine ⟨?_, rfl⟩
     rw [HF.out, ← HK.out, if_pos hn]
     rfl
    ·go_wp2_with (go_at_call 59; refine (power_any _ _ (by omega)).mono ?_; rintro e w' ⟨rfl, rfl⟩)
     refine bodyPost_ret (results_tmp3 rfl _ _ _) rfl ?_
     refine ⟨?_, rfl⟩
     rw [HF.out, ← HK.out, if_neg (by omega)]
     rfl
 ·have hb : inB n (-4095) 4095 = false := inB_not.2 (by omega)
  have hf : bitsZ n = (0, 0, 1) := by unfold bitsZ; rw [if_neg hin]
  rw [hf]
  clear hf hin
  go_enter Tryz.func23, Tryz.ntmps23
  go_wp2_with (go_at_call 20; refine (outside_any _ _ _ _).mono ?_; rintro e w' ⟨rfl, rfl⟩)
  refine bodyPost_ret (results_tmp3 rfl _ _ _) rfl ?_
  exact ⟨rfl, rfl⟩
def zstep (s : Int × Int × Bool) : Int × Int × Bool :=
 if s.2.2 then (if s.2.1 = 7 then (s.1 + 1, s.2.1, false) else if s.1 = 0 then (s.1, s.2.1 + 1, false) else (s.1 - 1, s.2.1 + 1, true))
 else (if s.1 = 7 then (s.1, s.2.1 + 1, true) else if s.2.1 = 0 then (s.1 + 1, s.2.1, true) else (s.1 + 1, s.2.1 - 1, false))
def zst : Nat → Int × Int × Bool
 | 0 => (0, 0, true)
 | k + 1 => zstep (zst k)
def zigAt (k : Nat) : Int := 8 * (zst k).1 + (zst k).2.1
def zigL : List Int := (List.range 64).map zigAt
theorem zst_bd (k : Nat) (h : k < 64) : 0 ≤ (zst k).1 ∧ (zst k).1 ≤ 7 ∧ 0 ≤ (zst k).2.1 ∧ (zst k).2.1 ≤ 7 :=
 (by decide +kernel : ∀ j : Fin 64, 0 ≤ (zst j.val).1 ∧ (zst j.val).1 ≤ 7 ∧ 0 ≤ (zst j.val).2.1 ∧ (zst j.val).2.1 ≤ 7) ⟨k, h⟩
theorem zigL_len : zigL.length = 64 := by simp [zigL]
theorem zigL_take_succ (k : Nat) (h : k < 64) : zigL.take (k + 1) = zigL.take k ++ [zigAt k] := by
 rw [List.take_succ_eq_append_getElem (by rw [zigL_len]; exact h)]
 simp [zigL]
theorem zigL_get (k : Nat) (h : k < zigL.length) : zigL[k] = zigAt k := by simp [zigL]
theorem zigAt_bd (k : Nat) (h : k < 64) : 0 ≤ zigAt k ∧ zigAt k < 64 := by
 have := zst_bd k h
 unfold zigAt
 omega
def zrow (s k : Nat) : List Int := (List.range k).filterMap fun (j : Nat) =>
 let r : Int := if s % 2 = 0 then 7 - (j : Int) else (j : Int)
 if 0 ≤ (s : Int) - r ∧ (s : Int) - r ≤ 7 then some (8 * r + (s - r)) else none
theorem zrow_succ (s k : Nat) : zrow s (k + 1) = zrow s k ++ (if 0 ≤ (s : Int) - (if s % 2 = 0 then 7 - (k : Int) else k) ∧ (s : Int) - (if s % 2 = 0 then 7 - (k : Int) else k) ≤ 7 then [8 * (if s % 2 = 0 then 7 - (k : Int) else k) + (s - (if s % 2 = 0 then 7 - (k : Int) else k))] else []) := by
 unfold zrow
 rw [List.range_succ, List.filterMap_append]
 congr 1
 simp only [List.filterMap_cons, List.filterMap_nil]
 by_cases h : 0 ≤ (s : Int) - (if s % 2 = 0 then 7 - (k : Int) else k) ∧ (s : Int) - (if s % 2 = 0 then 7 - (k : Int) else k) ≤ 7
 ·rw [if_pos h, if_pos h]
 ·rw [if_neg h, if_neg h]
def zall (s : Nat) : List Int := (List.range s).flatMap fun s => zrow s 8
theorem zall_succ (s : Nat) : zall (s + 1) = zall s ++ zrow s 8 := by
 unfold zall
 rw [List.range_succ, List.flatMap_append]
 simp
theorem zall_15 : zall 15 = zigL := by decide +kernel
theorem zlen (s k : Nat) (hs : s ≤ 15) (hk : k ≤ 8) : (zall s ++ zrow s k).length ≤ 200 :=
 (by decide +kernel : ∀ (s : Fin 16) (k : Fin 9), (zall s.val ++ zrow s.val k.val).length ≤ 200) ⟨s, by omega⟩ ⟨k, by omega⟩
def zto (zs : List Int) : List Int := (List.range 64).map fun i => zs.getD (zigAt i).toNat 0
theorem zto_len (zs : List Int) : (zto zs).length = 64 := by simp [zto]
theorem zto_set (zs : List Int) (k : Nat) (h : k < 64) : ((zto zs).take k ++ List.replicate (64 - k) 0).set k (zs.getD (zigAt k).toNat 0) = (zto zs).take (k + 1) ++ List.replicate (64 - (k + 1)) 0 := by
 have hl : ((zto zs).take k).length = k := by rw [List.length_take, zto_len]; omega
 rw [List.set_append_right _ _ (by omega), hl, Nat.sub_self, List.take_succ_eq_append_getElem (by rw [zto_len]; exact h)]
 obtain ⟨m, hm⟩ : ∃ m, 64 - k = m + 1 := ⟨64 - k - 1, by omega⟩
 have hm2 : 64 - (k + 1) = m := by omega
 rw [hm, hm2, List.replicate_succ, List.set_cons_zero]
 simp [zto]
def tokZ (r n : Int) : Tok := (16 * r + (bitsZ n).1, (bitsZ n).1, (bitsZ n).2.1)
def long : Tok := (240, 0, 0)
def stepT (s : List Tok × Nat) (n : Int) : List Tok × Nat := if n = 0 then (s.1, s.2 + 1) else (s.1 ++ List.replicate (s.2 / 16) long ++ [tokZ ((s.2 % 16 : Nat) : Int) n], 0)
def accT (t0 : Tok) (l : List Int) (k : Nat) : List Tok × Nat := (l.take k).foldl stepT ([t0], 0)
theorem accT_zero (t0 : Tok) (l : List Int) : accT t0 l 0 = ([t0], 0) := rfl
theorem accT_succ (t0 : Tok) (l : List Int) (k : Nat) (h : k < l.length) : accT t0 l (k + 1) = stepT (accT t0 l k) l[k] := by
 unfold accT
 rw [List.take_succ_eq_append_getElem h, List.foldl_append]
 rfl
theorem accT_bd (t0 : Tok) (l : List Int) : ∀ k, k ≤ l.length → k ≤ 64 → (accT t0 l k).2 ≤ k ∧ (accT t0 l k).1.length ≤ 1 + 64 * k := by
 intro k
 induction k with
 | zero => intro _ _; simp [accT_zero]
 | succ k ih =>
   intro h1 h2
   obtain ⟨a, b⟩ := ih (by omega) (by omega)
   rw [accT_succ t0 l k (by omega)]
   unfold stepT
   split
   ·simp; omega
   ·simp; omega
theorem stepT_zero {s : List Tok × Nat} {n : Int} (h : n = 0) : stepT s n = (s.1, s.2 + 1) := by unfold stepT; rw [if_pos h]
theorem stepT_one {s : List Tok × Nat} {n : Int} (h : n ≠ 0) : stepT s n = (s.1 ++ List.replicate (s.2 / 16) long ++ [tokZ ((s.2 % 16 : Nat) : Int) n], 0) := by unfold stepT; rw [if_neg h]
def tokensZ (before : Int) (z : List Int) : List Tok :=
 let s := accT (tokZ 0 (z.getD 0 0 - before)) (z.drop 1) 63
 if 0 < s.2 then s.1 ++ [(0, 0, 0)] else s.1
def tokWf (t : Tok) : Prop := 0 ≤ t.1 ∧ t.1 ≤ 255 ∧ 0 ≤ t.2.1 ∧ t.2.1 ≤ 12 ∧ 0 ≤ t.2.2 ∧ t.2.2 < 2 ^ t.2.1.toNat
theorem bitsZ_wf (n : Int) : 0 ≤ (bitsZ n).1 ∧ (bitsZ n).1 ≤ 12 ∧ 0 ≤ (bitsZ n).2.1 ∧ (bitsZ n).2.1 < 2 ^ (bitsZ n).1.toNat := by
 unfold bitsZ
 split
 ·next h =>
  obtain ⟨s1, s2, s3⟩ := szN_spec n h.1 h.2
  have p := pow_pos' (szN n)
  have s2' : (n.natAbs : Int) < 2 ^ szN n := by exact_mod_cast s2
  refine ⟨by simp, by simp; omega, ?_, ?_⟩
  ·show 0 ≤ (if n < 0 then n + 2 ^ szN n - 1 else n)
   split <;> omega
  ·show (if n < 0 then n + 2 ^ szN n - 1 else n) < 2 ^ ((szN n : Nat) : Int).toNat
   rw [Int.toNat_natCast]
   split <;> omega
 ·simp
theorem tokZ_wf (r : Nat) (n : Int) (h : r ≤ 15) : tokWf (tokZ (r : Int) n) := by
 obtain ⟨a, b, c, d⟩ := bitsZ_wf n
 unfold tokWf tokZ
 dsimp only
 exact ⟨by omega, by omega, a, b, c, d⟩
theorem accT_wf (t0 : Tok) (l : List Int) (h0 : tokWf t0) : ∀ k, k ≤ l.length → ∀ t ∈ (accT t0 l k).1, tokWf t := by
 intro k
 induction k with
 | zero => intro _ t ht; rw [accT_zero] at ht; simp at ht; subst ht; exact h0
 | succ k ih =>
   intro hk t ht
   have ih := ih (by omega)
   rw [accT_succ t0 l k (by omega)] at ht
   generalize accT t0 l k = s at *
   by_cases hz : l[k] = 0
   ·rw [stepT_zero hz] at ht; exact ih t ht
   ·rw [stepT_one hz] at ht
    simp only [List.mem_append, List.mem_replicate, List.mem_singleton] at ht
    rcases ht with (ht | ⟨-, rfl⟩) | rfl
    ·exact ih t ht
    ·unfold tokWf long; decide
    ·exact tokZ_wf _ _ (by omega)
theorem tokensZ_wf (before : Int) (z : List Int) (hz : z.length = 64) : ∀ t ∈ tokensZ before z, tokWf t := by
 intro t ht
 have h := accT_wf (tokZ 0 (z.getD 0 0 - before)) (z.drop 1) (tokZ_wf 0 _ (by omega)) 63 (by simp; omega)
 unfold tokensZ at ht
 simp only at ht
 split at ht
 ·rcases List.mem_append.1 ht with h1 | h1
  ·exact h t h1
  ·simp at h1; subst h1; unfold tokWf; decide
 ·exact h t ht
section
variable {σ : Type}
end
end Go.Proofs.YtlhggcbpipmjhaaGreatDoor
