/-
  No cell of these rows narrows 'for every input' (looked for: loops, veiled, ifaces, maps, wideKeys, modest, calm, conditions, laid).
  DERIVED. THE GIVEN ROWS OF THIS SEAT. 10 by the template 'for every input the law returns true; each argument reads behind the call as it read before'; 0 by the template 'total and deterministic' (their statements: YthnchhkiidlpkaaTotals.lean).
  GIVEN WITH THE SEED: the statements are not yours to turn. If you find one false, say at which input.
  Laid BY PROGRAM, IN A SANDBOX (cutbox-rows.mjs): the forced cells as the released guide's own fill.sh prints them over the translation e2583f43fd8dd45f… (all of the seat's roots in one cut). By AI agents, Wed Nov 11 2026. No macro, syntax, notation, axiom, sorry.
-/
import Derived.Test.YthnchhkiidlpkaaChecked
import GoSem.Claim
import GoSem.ClaimJoined
import GoSem.ClaimMapViews
import Derived.JoinedTies
import Derived.KernelRfl
namespace Go.Proofs.Ythnchhkiidlpkaa
/- THE CELL 'sum', in the pinned program and in every row, IS THE sha256 OF THE DUMP (.gsa) THAT YthnchhkiidlpkaaProg.lean LOADS. Nothing in Lean hashes anything: it is a label: what it is worth is what the hold of that sum in a sandbox is worth. -/
noncomputable def Try.pinned : Pinned := { name := "ythnchhkiidlpkaa", sum := "e2583f43fd8dd45f09052ad0d9d95284142cdeae19ccf49aab4773aaee8edd72", checked := Try.checked }
namespace Rows
def none {H : Type} : Left H := { results := [], args := [] }

/-- 'mezzotintlaw.BitsWrites': WHATEVER THE INPUT: true; the input reads as it did. -/
def bitsWritesSpec : ChangeSpec := { name := "bitsWrites", fn := fun _ => fun
  | [d] => { results := [.lit (.bool true)], args := [d] }
  | _ => none }
def bitsWritesRow : OpenClaim := { program := "ythnchhkiidlpkaa", sum := "e2583f43fd8dd45f09052ad0d9d95284142cdeae19ccf49aab4773aaee8edd72", func := "mezzotint/mezzotintlaw.BitsWrites", spec := "bitsWrites", inPlace := ["internal/abi.NoEscape"], plainKeys := false, apart := false }
def BitsWritesSaid : Prop := bitsWritesRow.holds Try.pinned (OpenSpec.ofChange bitsWritesSpec)

/-- ITS FALSE NEIGHBOUR: 'it returns false'. Refute it at one input. -/
def bitsWritesWrong : ChangeSpec := { name := "bitsWrites", fn := fun _ => fun
  | [d] => { results := [.lit (.bool false)], args := [d] }
  | _ => none }
def BitsWritesWrongFalsely : Prop := bitsWritesRow.holds Try.pinned (OpenSpec.ofChange bitsWritesWrong)

/-- 'mezzotintlaw.BitsReads': WHATEVER THE INPUT: true; the input reads as it did. -/
def bitsReadsSpec : ChangeSpec := { name := "bitsReads", fn := fun _ => fun
  | [d1, d2] => { results := [.lit (.bool true)], args := [d1, d2] }
  | _ => none }
def bitsReadsRow : OpenClaim := { program := "ythnchhkiidlpkaa", sum := "e2583f43fd8dd45f09052ad0d9d95284142cdeae19ccf49aab4773aaee8edd72", func := "mezzotint/mezzotintlaw.BitsReads", spec := "bitsReads", inPlace := ["internal/abi.NoEscape"], plainKeys := false, apart := false }
def BitsReadsSaid : Prop := bitsReadsRow.holds Try.pinned (OpenSpec.ofChange bitsReadsSpec)

/-- ITS FALSE NEIGHBOUR: 'it returns false'. Refute it at one input. -/
def bitsReadsWrong : ChangeSpec := { name := "bitsReads", fn := fun _ => fun
  | [d1, d2] => { results := [.lit (.bool false)], args := [d1, d2] }
  | _ => none }
def BitsReadsWrongFalsely : Prop := bitsReadsRow.holds Try.pinned (OpenSpec.ofChange bitsReadsWrong)

/-- 'mezzotintlaw.TableWords': WHATEVER THE INPUT: true; the input reads as it did. -/
def tableWordsSpec : ChangeSpec := { name := "tableWords", fn := fun _ => fun
  | [d] => { results := [.lit (.bool true)], args := [d] }
  | _ => none }
def tableWordsRow : OpenClaim := { program := "ythnchhkiidlpkaa", sum := "e2583f43fd8dd45f09052ad0d9d95284142cdeae19ccf49aab4773aaee8edd72", func := "mezzotint/mezzotintlaw.TableWords", spec := "tableWords", plainKeys := false, apart := false }
def TableWordsSaid : Prop := tableWordsRow.holds Try.pinned (OpenSpec.ofChange tableWordsSpec)

/-- ITS FALSE NEIGHBOUR: 'it returns false'. Refute it at one input. -/
def tableWordsWrong : ChangeSpec := { name := "tableWords", fn := fun _ => fun
  | [d] => { results := [.lit (.bool false)], args := [d] }
  | _ => none }
def TableWordsWrongFalsely : Prop := tableWordsRow.holds Try.pinned (OpenSpec.ofChange tableWordsWrong)

/-- 'mezzotintlaw.TableEncodes': WHATEVER THE INPUT: true; the input reads as it did. -/
def tableEncodesSpec : ChangeSpec := { name := "tableEncodes", fn := fun _ => fun
  | [d1, d2] => { results := [.lit (.bool true)], args := [d1, d2] }
  | _ => none }
def tableEncodesRow : OpenClaim := { program := "ythnchhkiidlpkaa", sum := "e2583f43fd8dd45f09052ad0d9d95284142cdeae19ccf49aab4773aaee8edd72", func := "mezzotint/mezzotintlaw.TableEncodes", spec := "tableEncodes", plainKeys := false, apart := false }
def TableEncodesSaid : Prop := tableEncodesRow.holds Try.pinned (OpenSpec.ofChange tableEncodesSpec)

/-- ITS FALSE NEIGHBOUR: 'it returns false'. Refute it at one input. -/
def tableEncodesWrong : ChangeSpec := { name := "tableEncodes", fn := fun _ => fun
  | [d1, d2] => { results := [.lit (.bool false)], args := [d1, d2] }
  | _ => none }
def TableEncodesWrongFalsely : Prop := tableEncodesRow.holds Try.pinned (OpenSpec.ofChange tableEncodesWrong)

/-- 'mezzotintlaw.TableDecodes': WHATEVER THE INPUT: true; the input reads as it did. -/
def tableDecodesSpec : ChangeSpec := { name := "tableDecodes", fn := fun _ => fun
  | [d1, d2, d3] => { results := [.lit (.bool true)], args := [d1, d2, d3] }
  | _ => none }
def tableDecodesRow : OpenClaim := { program := "ythnchhkiidlpkaa", sum := "e2583f43fd8dd45f09052ad0d9d95284142cdeae19ccf49aab4773aaee8edd72", func := "mezzotint/mezzotintlaw.TableDecodes", spec := "tableDecodes", inPlace := ["internal/abi.NoEscape"], plainKeys := false, apart := false }
def TableDecodesSaid : Prop := tableDecodesRow.holds Try.pinned (OpenSpec.ofChange tableDecodesSpec)

/-- ITS FALSE NEIGHBOUR: 'it returns false'. Refute it at one input. -/
def tableDecodesWrong : ChangeSpec := { name := "tableDecodes", fn := fun _ => fun
  | [d1, d2, d3] => { results := [.lit (.bool false)], args := [d1, d2, d3] }
  | _ => none }
def TableDecodesWrongFalsely : Prop := tableDecodesRow.holds Try.pinned (OpenSpec.ofChange tableDecodesWrong)

/-- 'mezzotintlaw.BestCosts': WHATEVER THE INPUT: true; the input reads as it did. -/
def bestCostsSpec : ChangeSpec := { name := "bestCosts", fn := fun _ => fun
  | [d1, d2] => { results := [.lit (.bool true)], args := [d1, d2] }
  | _ => none }
def bestCostsRow : OpenClaim := { program := "ythnchhkiidlpkaa", sum := "e2583f43fd8dd45f09052ad0d9d95284142cdeae19ccf49aab4773aaee8edd72", func := "mezzotint/mezzotintlaw.BestCosts", spec := "bestCosts", unfollowed := true, recurses := true, plainKeys := false, apart := false }
def BestCostsSaid : Prop := bestCostsRow.holds Try.pinned (OpenSpec.ofChange bestCostsSpec)

/-- ITS FALSE NEIGHBOUR: 'it returns false'. Refute it at one input. -/
def bestCostsWrong : ChangeSpec := { name := "bestCosts", fn := fun _ => fun
  | [d1, d2] => { results := [.lit (.bool false)], args := [d1, d2] }
  | _ => none }
def BestCostsWrongFalsely : Prop := bestCostsRow.holds Try.pinned (OpenSpec.ofChange bestCostsWrong)

/-- 'mezzotintlaw.SizeBacks': WHATEVER THE INPUT: true; the input reads as it did. -/
def sizeBacksSpec : ChangeSpec := { name := "sizeBacks", fn := fun _ => fun
  | [d1, d2] => { results := [.lit (.bool true)], args := [d1, d2] }
  | _ => none }
def sizeBacksRow : OpenClaim := { program := "ythnchhkiidlpkaa", sum := "e2583f43fd8dd45f09052ad0d9d95284142cdeae19ccf49aab4773aaee8edd72", func := "mezzotint/mezzotintlaw.SizeBacks", spec := "sizeBacks", plainKeys := false, apart := false }
def SizeBacksSaid : Prop := sizeBacksRow.holds Try.pinned (OpenSpec.ofChange sizeBacksSpec)

/-- ITS FALSE NEIGHBOUR: 'it returns false'. Refute it at one input. -/
def sizeBacksWrong : ChangeSpec := { name := "sizeBacks", fn := fun _ => fun
  | [d1, d2] => { results := [.lit (.bool false)], args := [d1, d2] }
  | _ => none }
def SizeBacksWrongFalsely : Prop := sizeBacksRow.holds Try.pinned (OpenSpec.ofChange sizeBacksWrong)

/-- 'mezzotintlaw.RunTokens': WHATEVER THE INPUT: true; the input reads as it did. -/
def runTokensSpec : ChangeSpec := { name := "runTokens", fn := fun _ => fun
  | [d1, d2] => { results := [.lit (.bool true)], args := [d1, d2] }
  | _ => none }
def runTokensRow : OpenClaim := { program := "ythnchhkiidlpkaa", sum := "e2583f43fd8dd45f09052ad0d9d95284142cdeae19ccf49aab4773aaee8edd72", func := "mezzotint/mezzotintlaw.RunTokens", spec := "runTokens", unfollowed := true, recurses := true, plainKeys := false, apart := false }
def RunTokensSaid : Prop := runTokensRow.holds Try.pinned (OpenSpec.ofChange runTokensSpec)

/-- ITS FALSE NEIGHBOUR: 'it returns false'. Refute it at one input. -/
def runTokensWrong : ChangeSpec := { name := "runTokens", fn := fun _ => fun
  | [d1, d2] => { results := [.lit (.bool false)], args := [d1, d2] }
  | _ => none }
def RunTokensWrongFalsely : Prop := runTokensRow.holds Try.pinned (OpenSpec.ofChange runTokensWrong)

/-- 'mezzotintlaw.RunBlocks': WHATEVER THE INPUT: true; the input reads as it did. -/
def runBlocksSpec : ChangeSpec := { name := "runBlocks", fn := fun _ => fun
  | [d1, d2] => { results := [.lit (.bool true)], args := [d1, d2] }
  | _ => none }
def runBlocksRow : OpenClaim := { program := "ythnchhkiidlpkaa", sum := "e2583f43fd8dd45f09052ad0d9d95284142cdeae19ccf49aab4773aaee8edd72", func := "mezzotint/mezzotintlaw.RunBlocks", spec := "runBlocks", unfollowed := true, recurses := true, plainKeys := false, apart := false }
def RunBlocksSaid : Prop := runBlocksRow.holds Try.pinned (OpenSpec.ofChange runBlocksSpec)

/-- ITS FALSE NEIGHBOUR: 'it returns false'. Refute it at one input. -/
def runBlocksWrong : ChangeSpec := { name := "runBlocks", fn := fun _ => fun
  | [d1, d2] => { results := [.lit (.bool false)], args := [d1, d2] }
  | _ => none }
def RunBlocksWrongFalsely : Prop := runBlocksRow.holds Try.pinned (OpenSpec.ofChange runBlocksWrong)

/-- 'mezzotintlaw.SegCounts': WHATEVER THE INPUT: true; the input reads as it did. -/
def segCountsSpec : ChangeSpec := { name := "segCounts", fn := fun _ => fun
  | [d] => { results := [.lit (.bool true)], args := [d] }
  | _ => none }
def segCountsRow : OpenClaim := { program := "ythnchhkiidlpkaa", sum := "e2583f43fd8dd45f09052ad0d9d95284142cdeae19ccf49aab4773aaee8edd72", func := "mezzotint/mezzotintlaw.SegCounts", spec := "segCounts", unfollowed := true, recurses := true, plainKeys := false, apart := false }
def SegCountsSaid : Prop := segCountsRow.holds Try.pinned (OpenSpec.ofChange segCountsSpec)

/-- ITS FALSE NEIGHBOUR: 'it returns false'. Refute it at one input. -/
def segCountsWrong : ChangeSpec := { name := "segCounts", fn := fun _ => fun
  | [d] => { results := [.lit (.bool false)], args := [d] }
  | _ => none }
def SegCountsWrongFalsely : Prop := segCountsRow.holds Try.pinned (OpenSpec.ofChange segCountsWrong)

/- THE SECOND FORM. 'bulk': how many values and letters a reading holds, each counted each time it is reached (what is shared counts as often as it is met; a slice's spare places count too). A statement '..UptoSaid' is the law's where the arguments, and the package variables that the reading takes, are together of bulk at most 1048576: NARROWER than '..Said'. Prove '..Said' where nothing that the law and all that it calls make is longer than what came in: it says more and counts as full. Else prove '..UptoSaid'. A law counts once. -/
mutual
def uptoBulk {H : Type} : DataW H → Nat
  | .lit (.string bytes) => bytes.length + 1
  | .lit _ => 1
  | .nil => 1
  | .ptr d => uptoBulk d + 1
  | .slice elems spare => uptoBulkAll elems + uptoBulkAll spare + 1
  | .agg parts => uptoBulkAll parts + 1
  | .iface _ d => uptoBulk d + 1
  | .map entries => uptoBulkEntries entries + 1
  | .held _ => 1
def uptoBulkAll {H : Type} : List (DataW H) → Nat
  | [] => 0
  | d :: r => uptoBulk d + uptoBulkAll r
def uptoBulkEntries {H : Type} : List (Lit × DataW H) → Nat
  | [] => 0
  | x :: r => uptoBulkEntry x + uptoBulkEntries r
def uptoBulkEntry {H : Type} : Lit × DataW H → Nat
  | (.string bytes, d) => bytes.length + uptoBulk d + 1
  | (_, d) => uptoBulk d + 1
 end
def uptoSmall : (H : Type) → List (DataW H) → Bool := fun _ ds => decide (uptoBulkAll ds ≤ 1048576)
def OpenSpec.upto (s : _root_.Go.ChangeSpec) : _root_.Go.OpenSpec := { _root_.Go.OpenSpec.ofChange s with cond := some uptoSmall }

/-- 'mezzotintlaw.BitsWrites', WHERE WHAT IT READS IS OF BULK AT MOST 1048576: true; the input reads as it did. -/
def bitsWritesUptoRow : OpenClaim := { program := "ythnchhkiidlpkaa", sum := "e2583f43fd8dd45f09052ad0d9d95284142cdeae19ccf49aab4773aaee8edd72", func := "mezzotint/mezzotintlaw.BitsWrites", spec := "bitsWrites", inPlace := ["internal/abi.NoEscape"], plainKeys := false, apart := false, narrowed := true }
def BitsWritesUptoSaid : Prop := bitsWritesUptoRow.holds Try.pinned (OpenSpec.upto bitsWritesSpec)

/-- 'mezzotintlaw.BitsReads', WHERE WHAT IT READS IS OF BULK AT MOST 1048576: true; the input reads as it did. -/
def bitsReadsUptoRow : OpenClaim := { program := "ythnchhkiidlpkaa", sum := "e2583f43fd8dd45f09052ad0d9d95284142cdeae19ccf49aab4773aaee8edd72", func := "mezzotint/mezzotintlaw.BitsReads", spec := "bitsReads", inPlace := ["internal/abi.NoEscape"], plainKeys := false, apart := false, narrowed := true }
def BitsReadsUptoSaid : Prop := bitsReadsUptoRow.holds Try.pinned (OpenSpec.upto bitsReadsSpec)

/-- 'mezzotintlaw.TableWords', WHERE WHAT IT READS IS OF BULK AT MOST 1048576: true; the input reads as it did. -/
def tableWordsUptoRow : OpenClaim := { program := "ythnchhkiidlpkaa", sum := "e2583f43fd8dd45f09052ad0d9d95284142cdeae19ccf49aab4773aaee8edd72", func := "mezzotint/mezzotintlaw.TableWords", spec := "tableWords", plainKeys := false, apart := false, narrowed := true }
def TableWordsUptoSaid : Prop := tableWordsUptoRow.holds Try.pinned (OpenSpec.upto tableWordsSpec)

/-- 'mezzotintlaw.TableEncodes', WHERE WHAT IT READS IS OF BULK AT MOST 1048576: true; the input reads as it did. -/
def tableEncodesUptoRow : OpenClaim := { program := "ythnchhkiidlpkaa", sum := "e2583f43fd8dd45f09052ad0d9d95284142cdeae19ccf49aab4773aaee8edd72", func := "mezzotint/mezzotintlaw.TableEncodes", spec := "tableEncodes", plainKeys := false, apart := false, narrowed := true }
def TableEncodesUptoSaid : Prop := tableEncodesUptoRow.holds Try.pinned (OpenSpec.upto tableEncodesSpec)

/-- 'mezzotintlaw.TableDecodes', WHERE WHAT IT READS IS OF BULK AT MOST 1048576: true; the input reads as it did. -/
def tableDecodesUptoRow : OpenClaim := { program := "ythnchhkiidlpkaa", sum := "e2583f43fd8dd45f09052ad0d9d95284142cdeae19ccf49aab4773aaee8edd72", func := "mezzotint/mezzotintlaw.TableDecodes", spec := "tableDecodes", inPlace := ["internal/abi.NoEscape"], plainKeys := false, apart := false, narrowed := true }
def TableDecodesUptoSaid : Prop := tableDecodesUptoRow.holds Try.pinned (OpenSpec.upto tableDecodesSpec)

/-- 'mezzotintlaw.BestCosts', WHERE WHAT IT READS IS OF BULK AT MOST 1048576: true; the input reads as it did. -/
def bestCostsUptoRow : OpenClaim := { program := "ythnchhkiidlpkaa", sum := "e2583f43fd8dd45f09052ad0d9d95284142cdeae19ccf49aab4773aaee8edd72", func := "mezzotint/mezzotintlaw.BestCosts", spec := "bestCosts", unfollowed := true, recurses := true, plainKeys := false, apart := false, narrowed := true }
def BestCostsUptoSaid : Prop := bestCostsUptoRow.holds Try.pinned (OpenSpec.upto bestCostsSpec)

/-- 'mezzotintlaw.SizeBacks', WHERE WHAT IT READS IS OF BULK AT MOST 1048576: true; the input reads as it did. -/
def sizeBacksUptoRow : OpenClaim := { program := "ythnchhkiidlpkaa", sum := "e2583f43fd8dd45f09052ad0d9d95284142cdeae19ccf49aab4773aaee8edd72", func := "mezzotint/mezzotintlaw.SizeBacks", spec := "sizeBacks", plainKeys := false, apart := false, narrowed := true }
def SizeBacksUptoSaid : Prop := sizeBacksUptoRow.holds Try.pinned (OpenSpec.upto sizeBacksSpec)

/-- 'mezzotintlaw.RunTokens', WHERE WHAT IT READS IS OF BULK AT MOST 1048576: true; the input reads as it did. -/
def runTokensUptoRow : OpenClaim := { program := "ythnchhkiidlpkaa", sum := "e2583f43fd8dd45f09052ad0d9d95284142cdeae19ccf49aab4773aaee8edd72", func := "mezzotint/mezzotintlaw.RunTokens", spec := "runTokens", unfollowed := true, recurses := true, plainKeys := false, apart := false, narrowed := true }
def RunTokensUptoSaid : Prop := runTokensUptoRow.holds Try.pinned (OpenSpec.upto runTokensSpec)

/-- 'mezzotintlaw.RunBlocks', WHERE WHAT IT READS IS OF BULK AT MOST 1048576: true; the input reads as it did. -/
def runBlocksUptoRow : OpenClaim := { program := "ythnchhkiidlpkaa", sum := "e2583f43fd8dd45f09052ad0d9d95284142cdeae19ccf49aab4773aaee8edd72", func := "mezzotint/mezzotintlaw.RunBlocks", spec := "runBlocks", unfollowed := true, recurses := true, plainKeys := false, apart := false, narrowed := true }
def RunBlocksUptoSaid : Prop := runBlocksUptoRow.holds Try.pinned (OpenSpec.upto runBlocksSpec)

/-- 'mezzotintlaw.SegCounts', WHERE WHAT IT READS IS OF BULK AT MOST 1048576: true; the input reads as it did. -/
def segCountsUptoRow : OpenClaim := { program := "ythnchhkiidlpkaa", sum := "e2583f43fd8dd45f09052ad0d9d95284142cdeae19ccf49aab4773aaee8edd72", func := "mezzotint/mezzotintlaw.SegCounts", spec := "segCounts", unfollowed := true, recurses := true, plainKeys := false, apart := false, narrowed := true }
def SegCountsUptoSaid : Prop := segCountsUptoRow.holds Try.pinned (OpenSpec.upto segCountsSpec)

end Rows
end Go.Proofs.Ythnchhkiidlpkaa
