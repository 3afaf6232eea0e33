/-
  No cell of these rows narrows 'for every input' (looked for: loops, veiled, ifaces, maps, wideKeys, modest, calm, conditions, laid).
  DERIVED. THE GIVEN ROWS OF THIS SEAT. 5 by the template 'for every input the law returns true; each argument reads behind the call as it read before'; 0 by the template 'total and deterministic' (their statements: YtkfdkkhhkciocaaTotals.lean).
  GIVEN WITH THE SEED: the statements are not yours to turn. If you find one false, say at which input.
  Laid BY PROGRAM, IN A SANDBOX (cutbox-rows.mjs): the forced cells as the released guide's own fill.sh prints them over the translation 6eaf4617f3eb9347… (all of the seat's roots in one cut). By AI agents, Wed Nov 11 2026. No macro, syntax, notation, axiom, sorry.
-/
import Derived.Test.YtkfdkkhhkciocaaChecked
import GoSem.Claim
import GoSem.ClaimJoined
import GoSem.ClaimMapViews
import Derived.JoinedTies
import Derived.KernelRfl
namespace Go.Proofs.Ytkfdkkhhkciocaa
/- THE CELL 'sum', in the pinned program and in every row, IS THE sha256 OF THE DUMP (.gsa) THAT YtkfdkkhhkciocaaProg.lean LOADS. Nothing in Lean hashes anything: it is a label: what it is worth is what the hold of that sum in a sandbox is worth. -/
noncomputable def Try.pinned : Pinned := { name := "ytkfdkkhhkciocaa", sum := "6eaf4617f3eb9347f6d327483a9e6cc52add6a3b431f85c91a219ff81a3affe9", checked := Try.checked }
namespace Rows
def none {H : Type} : Left H := { results := [], args := [] }

/-- 'mezzotintlaw.RunBlocks': WHATEVER THE INPUT: true; the input reads as it did. -/
def runBlocksSpec : ChangeSpec := { name := "runBlocks", fn := fun _ => fun
  | [d1, d2] => { results := [.lit (.bool true)], args := [d1, d2] }
  | _ => none }
def runBlocksRow : OpenClaim := { program := "ytkfdkkhhkciocaa", sum := "6eaf4617f3eb9347f6d327483a9e6cc52add6a3b431f85c91a219ff81a3affe9", func := "mezzotint/mezzotintlaw.RunBlocks", spec := "runBlocks", unfollowed := true, recurses := true, apart := false }
def RunBlocksSaid : Prop := runBlocksRow.holds Try.pinned (OpenSpec.ofChange runBlocksSpec)

/-- ITS FALSE NEIGHBOUR: 'it returns false'. Refute it at one input. -/
def runBlocksWrong : ChangeSpec := { name := "runBlocks", fn := fun _ => fun
  | [d1, d2] => { results := [.lit (.bool false)], args := [d1, d2] }
  | _ => none }
def RunBlocksWrongFalsely : Prop := runBlocksRow.holds Try.pinned (OpenSpec.ofChange runBlocksWrong)

/-- 'mezzotintlaw.SegCounts': WHATEVER THE INPUT: true; the input reads as it did. -/
def segCountsSpec : ChangeSpec := { name := "segCounts", fn := fun _ => fun
  | [d] => { results := [.lit (.bool true)], args := [d] }
  | _ => none }
def segCountsRow : OpenClaim := { program := "ytkfdkkhhkciocaa", sum := "6eaf4617f3eb9347f6d327483a9e6cc52add6a3b431f85c91a219ff81a3affe9", func := "mezzotint/mezzotintlaw.SegCounts", spec := "segCounts", unfollowed := true, recurses := true, apart := false }
def SegCountsSaid : Prop := segCountsRow.holds Try.pinned (OpenSpec.ofChange segCountsSpec)

/-- ITS FALSE NEIGHBOUR: 'it returns false'. Refute it at one input. -/
def segCountsWrong : ChangeSpec := { name := "segCounts", fn := fun _ => fun
  | [d] => { results := [.lit (.bool false)], args := [d] }
  | _ => none }
def SegCountsWrongFalsely : Prop := segCountsRow.holds Try.pinned (OpenSpec.ofChange segCountsWrong)

/-- 'mezzotintlaw.FileParses': WHATEVER THE INPUT: true; the input reads as it did. -/
def fileParsesSpec : ChangeSpec := { name := "fileParses", fn := fun _ => fun
  | [d] => { results := [.lit (.bool true)], args := [d] }
  | _ => none }
def fileParsesRow : OpenClaim := { program := "ytkfdkkhhkciocaa", sum := "6eaf4617f3eb9347f6d327483a9e6cc52add6a3b431f85c91a219ff81a3affe9", func := "mezzotint/mezzotintlaw.FileParses", spec := "fileParses", unfollowed := true, recurses := true, apart := false }
def FileParsesSaid : Prop := fileParsesRow.holds Try.pinned (OpenSpec.ofChange fileParsesSpec)

/-- ITS FALSE NEIGHBOUR: 'it returns false'. Refute it at one input. -/
def fileParsesWrong : ChangeSpec := { name := "fileParses", fn := fun _ => fun
  | [d] => { results := [.lit (.bool false)], args := [d] }
  | _ => none }
def FileParsesWrongFalsely : Prop := fileParsesRow.holds Try.pinned (OpenSpec.ofChange fileParsesWrong)

/-- 'mezzotintlaw.FrameBlocks': WHATEVER THE INPUT: true; the input reads as it did. -/
def frameBlocksSpec : ChangeSpec := { name := "frameBlocks", fn := fun _ => fun
  | [d1, d2] => { results := [.lit (.bool true)], args := [d1, d2] }
  | _ => none }
def frameBlocksRow : OpenClaim := { program := "ytkfdkkhhkciocaa", sum := "6eaf4617f3eb9347f6d327483a9e6cc52add6a3b431f85c91a219ff81a3affe9", func := "mezzotint/mezzotintlaw.FrameBlocks", spec := "frameBlocks", unfollowed := true, recurses := true, apart := false }
def FrameBlocksSaid : Prop := frameBlocksRow.holds Try.pinned (OpenSpec.ofChange frameBlocksSpec)

/-- ITS FALSE NEIGHBOUR: 'it returns false'. Refute it at one input. -/
def frameBlocksWrong : ChangeSpec := { name := "frameBlocks", fn := fun _ => fun
  | [d1, d2] => { results := [.lit (.bool false)], args := [d1, d2] }
  | _ => none }
def FrameBlocksWrongFalsely : Prop := frameBlocksRow.holds Try.pinned (OpenSpec.ofChange frameBlocksWrong)

/-- 'mezzotintlaw.BestMakes': WHATEVER THE INPUT: true; the input reads as it did. -/
def bestMakesSpec : ChangeSpec := { name := "bestMakes", fn := fun _ => fun
  | [d] => { results := [.lit (.bool true)], args := [d] }
  | _ => none }
def bestMakesRow : OpenClaim := { program := "ytkfdkkhhkciocaa", sum := "6eaf4617f3eb9347f6d327483a9e6cc52add6a3b431f85c91a219ff81a3affe9", func := "mezzotint/mezzotintlaw.BestMakes", spec := "bestMakes", unfollowed := true, recurses := true, apart := false }
def BestMakesSaid : Prop := bestMakesRow.holds Try.pinned (OpenSpec.ofChange bestMakesSpec)

/-- ITS FALSE NEIGHBOUR: 'it returns false'. Refute it at one input. -/
def bestMakesWrong : ChangeSpec := { name := "bestMakes", fn := fun _ => fun
  | [d] => { results := [.lit (.bool false)], args := [d] }
  | _ => none }
def BestMakesWrongFalsely : Prop := bestMakesRow.holds Try.pinned (OpenSpec.ofChange bestMakesWrong)

/- THE SECOND FORM. 'bulk': how many values and letters a reading holds, each counted each time it is reached (what is shared counts as often as it is met; a slice's spare places count too). A statement '..UptoSaid' is the law's where the arguments, and the package variables that the reading takes, are together of bulk at most 1048576: NARROWER than '..Said'. Prove '..Said' where nothing that the law and all that it calls make is longer than what came in: it says more and counts as full. Else prove '..UptoSaid'. A law counts once. -/
mutual
def uptoBulk {H : Type} : DataW H → Nat
  | .lit (.string bytes) => bytes.length + 1
  | .lit _ => 1
  | .nil => 1
  | .ptr d => uptoBulk d + 1
  | .slice elems spare => uptoBulkAll elems + uptoBulkAll spare + 1
  | .agg parts => uptoBulkAll parts + 1
  | .iface _ d => uptoBulk d + 1
  | .map entries => uptoBulkEntries entries + 1
  | .held _ => 1
def uptoBulkAll {H : Type} : List (DataW H) → Nat
  | [] => 0
  | d :: r => uptoBulk d + uptoBulkAll r
def uptoBulkEntries {H : Type} : List (Lit × DataW H) → Nat
  | [] => 0
  | x :: r => uptoBulkEntry x + uptoBulkEntries r
def uptoBulkEntry {H : Type} : Lit × DataW H → Nat
  | (.string bytes, d) => bytes.length + uptoBulk d + 1
  | (_, d) => uptoBulk d + 1
 end
def uptoSmall : (H : Type) → List (DataW H) → Bool := fun _ ds => decide (uptoBulkAll ds ≤ 1048576)
def OpenSpec.upto (s : _root_.Go.ChangeSpec) : _root_.Go.OpenSpec := { _root_.Go.OpenSpec.ofChange s with cond := some uptoSmall }

/-- 'mezzotintlaw.RunBlocks', WHERE WHAT IT READS IS OF BULK AT MOST 1048576: true; the input reads as it did. -/
def runBlocksUptoRow : OpenClaim := { program := "ytkfdkkhhkciocaa", sum := "6eaf4617f3eb9347f6d327483a9e6cc52add6a3b431f85c91a219ff81a3affe9", func := "mezzotint/mezzotintlaw.RunBlocks", spec := "runBlocks", unfollowed := true, recurses := true, apart := false, narrowed := true }
def RunBlocksUptoSaid : Prop := runBlocksUptoRow.holds Try.pinned (OpenSpec.upto runBlocksSpec)

/-- 'mezzotintlaw.SegCounts', WHERE WHAT IT READS IS OF BULK AT MOST 1048576: true; the input reads as it did. -/
def segCountsUptoRow : OpenClaim := { program := "ytkfdkkhhkciocaa", sum := "6eaf4617f3eb9347f6d327483a9e6cc52add6a3b431f85c91a219ff81a3affe9", func := "mezzotint/mezzotintlaw.SegCounts", spec := "segCounts", unfollowed := true, recurses := true, apart := false, narrowed := true }
def SegCountsUptoSaid : Prop := segCountsUptoRow.holds Try.pinned (OpenSpec.upto segCountsSpec)

/-- 'mezzotintlaw.FileParses', WHERE WHAT IT READS IS OF BULK AT MOST 1048576: true; the input reads as it did. -/
def fileParsesUptoRow : OpenClaim := { program := "ytkfdkkhhkciocaa", sum := "6eaf4617f3eb9347f6d327483a9e6cc52add6a3b431f85c91a219ff81a3affe9", func := "mezzotint/mezzotintlaw.FileParses", spec := "fileParses", unfollowed := true, recurses := true, apart := false, narrowed := true }
def FileParsesUptoSaid : Prop := fileParsesUptoRow.holds Try.pinned (OpenSpec.upto fileParsesSpec)

/-- 'mezzotintlaw.FrameBlocks', WHERE WHAT IT READS IS OF BULK AT MOST 1048576: true; the input reads as it did. -/
def frameBlocksUptoRow : OpenClaim := { program := "ytkfdkkhhkciocaa", sum := "6eaf4617f3eb9347f6d327483a9e6cc52add6a3b431f85c91a219ff81a3affe9", func := "mezzotint/mezzotintlaw.FrameBlocks", spec := "frameBlocks", unfollowed := true, recurses := true, apart := false, narrowed := true }
def FrameBlocksUptoSaid : Prop := frameBlocksUptoRow.holds Try.pinned (OpenSpec.upto frameBlocksSpec)

/-- 'mezzotintlaw.BestMakes', WHERE WHAT IT READS IS OF BULK AT MOST 1048576: true; the input reads as it did. -/
def bestMakesUptoRow : OpenClaim := { program := "ytkfdkkhhkciocaa", sum := "6eaf4617f3eb9347f6d327483a9e6cc52add6a3b431f85c91a219ff81a3affe9", func := "mezzotint/mezzotintlaw.BestMakes", spec := "bestMakes", unfollowed := true, recurses := true, apart := false, narrowed := true }
def BestMakesUptoSaid : Prop := bestMakesUptoRow.holds Try.pinned (OpenSpec.upto bestMakesSpec)

end Rows
end Go.Proofs.Ytkfdkkhhkciocaa
