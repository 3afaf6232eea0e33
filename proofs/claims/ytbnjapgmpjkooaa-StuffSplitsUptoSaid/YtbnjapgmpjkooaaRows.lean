/-
  No cell of these rows narrows 'for every input' (looked for: loops, veiled, ifaces, maps, wideKeys, modest, calm, conditions, laid).
  DERIVED. THE GIVEN ROWS OF THIS SEAT. 5 by the template 'for every input the law returns true; each argument reads behind the call as it read before'; 0 by the template 'total and deterministic' (their statements: YtbnjapgmpjkooaaTotals.lean).
  GIVEN WITH THE SEED: the statements are not yours to turn. If you find one false, say at which input.
  Laid BY PROGRAM, IN A SANDBOX (cutbox-rows.mjs): the forced cells as the released guide's own fill.sh prints them over the translation be308e729acf5a10… (all of the seat's roots in one cut). By AI agents, Wed Nov 11 2026. No macro, syntax, notation, axiom, sorry.
-/
import Derived.Test.YtbnjapgmpjkooaaChecked
import GoSem.Claim
import GoSem.ClaimJoined
import GoSem.ClaimMapViews
import Derived.JoinedTies
import Derived.KernelRfl
namespace Go.Proofs.Ytbnjapgmpjkooaa
/- THE CELL 'sum', in the pinned program and in every row, IS THE sha256 OF THE DUMP (.gsa) THAT YtbnjapgmpjkooaaProg.lean LOADS. Nothing in Lean hashes anything: it is a label: what it is worth is what the hold of that sum in a sandbox is worth. -/
noncomputable def Try.pinned : Pinned := { name := "ytbnjapgmpjkooaa", sum := "be308e729acf5a100fcea63c3ec01ceb5da329dafa1957b2489a214955f155c3", checked := Try.checked }
namespace Rows
def none {H : Type} : Left H := { results := [], args := [] }

/-- 'mezzotintlaw.BitsWrites': WHATEVER THE INPUT: true; the input reads as it did. -/
def bitsWritesSpec : ChangeSpec := { name := "bitsWrites", fn := fun _ => fun
  | [d] => { results := [.lit (.bool true)], args := [d] }
  | _ => none }
def bitsWritesRow : OpenClaim := { program := "ytbnjapgmpjkooaa", sum := "be308e729acf5a100fcea63c3ec01ceb5da329dafa1957b2489a214955f155c3", func := "mezzotint/mezzotintlaw.BitsWrites", spec := "bitsWrites", inPlace := ["internal/abi.NoEscape"], plainKeys := false, apart := false }
def BitsWritesSaid : Prop := bitsWritesRow.holds Try.pinned (OpenSpec.ofChange bitsWritesSpec)

/-- ITS FALSE NEIGHBOUR: 'it returns false'. Refute it at one input. -/
def bitsWritesWrong : ChangeSpec := { name := "bitsWrites", fn := fun _ => fun
  | [d] => { results := [.lit (.bool false)], args := [d] }
  | _ => none }
def BitsWritesWrongFalsely : Prop := bitsWritesRow.holds Try.pinned (OpenSpec.ofChange bitsWritesWrong)

/-- 'mezzotintlaw.BitsReads': WHATEVER THE INPUT: true; the input reads as it did. -/
def bitsReadsSpec : ChangeSpec := { name := "bitsReads", fn := fun _ => fun
  | [d1, d2] => { results := [.lit (.bool true)], args := [d1, d2] }
  | _ => none }
def bitsReadsRow : OpenClaim := { program := "ytbnjapgmpjkooaa", sum := "be308e729acf5a100fcea63c3ec01ceb5da329dafa1957b2489a214955f155c3", func := "mezzotint/mezzotintlaw.BitsReads", spec := "bitsReads", inPlace := ["internal/abi.NoEscape"], plainKeys := false, apart := false }
def BitsReadsSaid : Prop := bitsReadsRow.holds Try.pinned (OpenSpec.ofChange bitsReadsSpec)

/-- ITS FALSE NEIGHBOUR: 'it returns false'. Refute it at one input. -/
def bitsReadsWrong : ChangeSpec := { name := "bitsReads", fn := fun _ => fun
  | [d1, d2] => { results := [.lit (.bool false)], args := [d1, d2] }
  | _ => none }
def BitsReadsWrongFalsely : Prop := bitsReadsRow.holds Try.pinned (OpenSpec.ofChange bitsReadsWrong)

/-- 'mezzotintlaw.TableDecodes': WHATEVER THE INPUT: true; the input reads as it did. -/
def tableDecodesSpec : ChangeSpec := { name := "tableDecodes", fn := fun _ => fun
  | [d1, d2, d3] => { results := [.lit (.bool true)], args := [d1, d2, d3] }
  | _ => none }
def tableDecodesRow : OpenClaim := { program := "ytbnjapgmpjkooaa", sum := "be308e729acf5a100fcea63c3ec01ceb5da329dafa1957b2489a214955f155c3", func := "mezzotint/mezzotintlaw.TableDecodes", spec := "tableDecodes", inPlace := ["internal/abi.NoEscape"], plainKeys := false, apart := false }
def TableDecodesSaid : Prop := tableDecodesRow.holds Try.pinned (OpenSpec.ofChange tableDecodesSpec)

/-- ITS FALSE NEIGHBOUR: 'it returns false'. Refute it at one input. -/
def tableDecodesWrong : ChangeSpec := { name := "tableDecodes", fn := fun _ => fun
  | [d1, d2, d3] => { results := [.lit (.bool false)], args := [d1, d2, d3] }
  | _ => none }
def TableDecodesWrongFalsely : Prop := tableDecodesRow.holds Try.pinned (OpenSpec.ofChange tableDecodesWrong)

/-- 'mezzotintlaw.StuffSplits': WHATEVER THE INPUT: true; the input reads as it did. -/
def stuffSplitsSpec : ChangeSpec := { name := "stuffSplits", fn := fun _ => fun
  | [d] => { results := [.lit (.bool true)], args := [d] }
  | _ => none }
def stuffSplitsRow : OpenClaim := { program := "ytbnjapgmpjkooaa", sum := "be308e729acf5a100fcea63c3ec01ceb5da329dafa1957b2489a214955f155c3", func := "mezzotint/mezzotintlaw.StuffSplits", spec := "stuffSplits", plainKeys := false, apart := false }
def StuffSplitsSaid : Prop := stuffSplitsRow.holds Try.pinned (OpenSpec.ofChange stuffSplitsSpec)

/-- ITS FALSE NEIGHBOUR: 'it returns false'. Refute it at one input. -/
def stuffSplitsWrong : ChangeSpec := { name := "stuffSplits", fn := fun _ => fun
  | [d] => { results := [.lit (.bool false)], args := [d] }
  | _ => none }
def StuffSplitsWrongFalsely : Prop := stuffSplitsRow.holds Try.pinned (OpenSpec.ofChange stuffSplitsWrong)

/-- 'mezzotintlaw.FileParses': WHATEVER THE INPUT: true; the input reads as it did. -/
def fileParsesSpec : ChangeSpec := { name := "fileParses", fn := fun _ => fun
  | [d] => { results := [.lit (.bool true)], args := [d] }
  | _ => none }
def fileParsesRow : OpenClaim := { program := "ytbnjapgmpjkooaa", sum := "be308e729acf5a100fcea63c3ec01ceb5da329dafa1957b2489a214955f155c3", func := "mezzotint/mezzotintlaw.FileParses", spec := "fileParses", unfollowed := true, recurses := true, plainKeys := false, apart := false }
def FileParsesSaid : Prop := fileParsesRow.holds Try.pinned (OpenSpec.ofChange fileParsesSpec)

/-- ITS FALSE NEIGHBOUR: 'it returns false'. Refute it at one input. -/
def fileParsesWrong : ChangeSpec := { name := "fileParses", fn := fun _ => fun
  | [d] => { results := [.lit (.bool false)], args := [d] }
  | _ => none }
def FileParsesWrongFalsely : Prop := fileParsesRow.holds Try.pinned (OpenSpec.ofChange fileParsesWrong)

/- THE SECOND FORM. 'bulk': how many values and letters a reading holds, each counted each time it is reached (what is shared counts as often as it is met; a slice's spare places count too). A statement '..UptoSaid' is the law's where the arguments, and the package variables that the reading takes, are together of bulk at most 1048576: NARROWER than '..Said'. Prove '..Said' where nothing that the law and all that it calls make is longer than what came in: it says more and counts as full. Else prove '..UptoSaid'. A law counts once. -/
mutual
def uptoBulk {H : Type} : DataW H → Nat
  | .lit (.string bytes) => bytes.length + 1
  | .lit _ => 1
  | .nil => 1
  | .ptr d => uptoBulk d + 1
  | .slice elems spare => uptoBulkAll elems + uptoBulkAll spare + 1
  | .agg parts => uptoBulkAll parts + 1
  | .iface _ d => uptoBulk d + 1
  | .map entries => uptoBulkEntries entries + 1
  | .held _ => 1
def uptoBulkAll {H : Type} : List (DataW H) → Nat
  | [] => 0
  | d :: r => uptoBulk d + uptoBulkAll r
def uptoBulkEntries {H : Type} : List (Lit × DataW H) → Nat
  | [] => 0
  | x :: r => uptoBulkEntry x + uptoBulkEntries r
def uptoBulkEntry {H : Type} : Lit × DataW H → Nat
  | (.string bytes, d) => bytes.length + uptoBulk d + 1
  | (_, d) => uptoBulk d + 1
 end
def uptoSmall : (H : Type) → List (DataW H) → Bool := fun _ ds => decide (uptoBulkAll ds ≤ 1048576)
def OpenSpec.upto (s : _root_.Go.ChangeSpec) : _root_.Go.OpenSpec := { _root_.Go.OpenSpec.ofChange s with cond := some uptoSmall }

/-- 'mezzotintlaw.BitsWrites', WHERE WHAT IT READS IS OF BULK AT MOST 1048576: true; the input reads as it did. -/
def bitsWritesUptoRow : OpenClaim := { program := "ytbnjapgmpjkooaa", sum := "be308e729acf5a100fcea63c3ec01ceb5da329dafa1957b2489a214955f155c3", func := "mezzotint/mezzotintlaw.BitsWrites", spec := "bitsWrites", inPlace := ["internal/abi.NoEscape"], plainKeys := false, apart := false, narrowed := true }
def BitsWritesUptoSaid : Prop := bitsWritesUptoRow.holds Try.pinned (OpenSpec.upto bitsWritesSpec)

/-- 'mezzotintlaw.BitsReads', WHERE WHAT IT READS IS OF BULK AT MOST 1048576: true; the input reads as it did. -/
def bitsReadsUptoRow : OpenClaim := { program := "ytbnjapgmpjkooaa", sum := "be308e729acf5a100fcea63c3ec01ceb5da329dafa1957b2489a214955f155c3", func := "mezzotint/mezzotintlaw.BitsReads", spec := "bitsReads", inPlace := ["internal/abi.NoEscape"], plainKeys := false, apart := false, narrowed := true }
def BitsReadsUptoSaid : Prop := bitsReadsUptoRow.holds Try.pinned (OpenSpec.upto bitsReadsSpec)

/-- 'mezzotintlaw.TableDecodes', WHERE WHAT IT READS IS OF BULK AT MOST 1048576: true; the input reads as it did. -/
def tableDecodesUptoRow : OpenClaim := { program := "ytbnjapgmpjkooaa", sum := "be308e729acf5a100fcea63c3ec01ceb5da329dafa1957b2489a214955f155c3", func := "mezzotint/mezzotintlaw.TableDecodes", spec := "tableDecodes", inPlace := ["internal/abi.NoEscape"], plainKeys := false, apart := false, narrowed := true }
def TableDecodesUptoSaid : Prop := tableDecodesUptoRow.holds Try.pinned (OpenSpec.upto tableDecodesSpec)

/-- 'mezzotintlaw.StuffSplits', WHERE WHAT IT READS IS OF BULK AT MOST 1048576: true; the input reads as it did. -/
def stuffSplitsUptoRow : OpenClaim := { program := "ytbnjapgmpjkooaa", sum := "be308e729acf5a100fcea63c3ec01ceb5da329dafa1957b2489a214955f155c3", func := "mezzotint/mezzotintlaw.StuffSplits", spec := "stuffSplits", plainKeys := false, apart := false, narrowed := true }
def StuffSplitsUptoSaid : Prop := stuffSplitsUptoRow.holds Try.pinned (OpenSpec.upto stuffSplitsSpec)

/-- 'mezzotintlaw.FileParses', WHERE WHAT IT READS IS OF BULK AT MOST 1048576: true; the input reads as it did. -/
def fileParsesUptoRow : OpenClaim := { program := "ytbnjapgmpjkooaa", sum := "be308e729acf5a100fcea63c3ec01ceb5da329dafa1957b2489a214955f155c3", func := "mezzotint/mezzotintlaw.FileParses", spec := "fileParses", unfollowed := true, recurses := true, plainKeys := false, apart := false, narrowed := true }
def FileParsesUptoSaid : Prop := fileParsesUptoRow.holds Try.pinned (OpenSpec.upto fileParsesSpec)

end Rows
end Go.Proofs.Ytbnjapgmpjkooaa
