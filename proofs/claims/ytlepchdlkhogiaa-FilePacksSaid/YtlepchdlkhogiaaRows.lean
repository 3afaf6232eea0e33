/-
  No cell of these rows narrows 'for every input' (looked for: loops, veiled, ifaces, maps, wideKeys, modest, calm, conditions, laid).
  DERIVED. THE GIVEN ROWS OF THIS SEAT. 7 by the template 'for every input the law returns true; each argument reads behind the call as it read before'; 0 by the template 'total and deterministic' (their statements: YtlepchdlkhogiaaTotals.lean).
  GIVEN WITH THE SEED: the statements are not yours to turn. If you find one false, say at which input.
  Laid BY PROGRAM, IN A SANDBOX (cutbox-rows.mjs): the forced cells as the released guide's own fill.sh prints them over the translation af41bc8f0b4766ba… (all of the seat's roots in one cut). By AI agents, Wed Nov 11 2026. No macro, syntax, notation, axiom, sorry.
-/
import Derived.Test.YtlepchdlkhogiaaChecked
import GoSem.Claim
import GoSem.ClaimJoined
import GoSem.ClaimMapViews
import Derived.JoinedTies
import Derived.KernelRfl
namespace Go.Proofs.Ytlepchdlkhogiaa
/- THE CELL 'sum', in the pinned program and in every row, IS THE sha256 OF THE DUMP (.gsa) THAT YtlepchdlkhogiaaProg.lean LOADS. Nothing in Lean hashes anything: it is a label: what it is worth is what the hold of that sum in a sandbox is worth. -/
noncomputable def Try.pinned : Pinned := { name := "ytlepchdlkhogiaa", sum := "af41bc8f0b4766ba89490b7afa3d044c37757d7990450991c667ba9429ec137a", checked := Try.checked }
namespace Rows
def none {H : Type} : Left H := { results := [], args := [] }

/-- 'mezzotintlaw.PlaneCuts': WHATEVER THE INPUT: true; the input reads as it did. -/
def planeCutsSpec : ChangeSpec := { name := "planeCuts", fn := fun _ => fun
  | [d1, d2, d3] => { results := [.lit (.bool true)], args := [d1, d2, d3] }
  | _ => none }
def planeCutsRow : OpenClaim := { program := "ytlepchdlkhogiaa", sum := "af41bc8f0b4766ba89490b7afa3d044c37757d7990450991c667ba9429ec137a", func := "mezzotint/mezzotintlaw.PlaneCuts", spec := "planeCuts", unfollowed := true, recurses := true, apart := false }
def PlaneCutsSaid : Prop := planeCutsRow.holds Try.pinned (OpenSpec.ofChange planeCutsSpec)

/-- ITS FALSE NEIGHBOUR: 'it returns false'. Refute it at one input. -/
def planeCutsWrong : ChangeSpec := { name := "planeCuts", fn := fun _ => fun
  | [d1, d2, d3] => { results := [.lit (.bool false)], args := [d1, d2, d3] }
  | _ => none }
def PlaneCutsWrongFalsely : Prop := planeCutsRow.holds Try.pinned (OpenSpec.ofChange planeCutsWrong)

/-- 'mezzotintlaw.PlaneJoins': WHATEVER THE INPUT: true; the input reads as it did. -/
def planeJoinsSpec : ChangeSpec := { name := "planeJoins", fn := fun _ => fun
  | [d1, d2, d3] => { results := [.lit (.bool true)], args := [d1, d2, d3] }
  | _ => none }
def planeJoinsRow : OpenClaim := { program := "ytlepchdlkhogiaa", sum := "af41bc8f0b4766ba89490b7afa3d044c37757d7990450991c667ba9429ec137a", func := "mezzotint/mezzotintlaw.PlaneJoins", spec := "planeJoins", unfollowed := true, recurses := true, apart := false }
def PlaneJoinsSaid : Prop := planeJoinsRow.holds Try.pinned (OpenSpec.ofChange planeJoinsSpec)

/-- ITS FALSE NEIGHBOUR: 'it returns false'. Refute it at one input. -/
def planeJoinsWrong : ChangeSpec := { name := "planeJoins", fn := fun _ => fun
  | [d1, d2, d3] => { results := [.lit (.bool false)], args := [d1, d2, d3] }
  | _ => none }
def PlaneJoinsWrongFalsely : Prop := planeJoinsRow.holds Try.pinned (OpenSpec.ofChange planeJoinsWrong)

/-- 'mezzotintlaw.FrameChecks': WHATEVER THE INPUT: true; the input reads as it did. -/
def frameChecksSpec : ChangeSpec := { name := "frameChecks", fn := fun _ => fun
  | [d] => { results := [.lit (.bool true)], args := [d] }
  | _ => none }
def frameChecksRow : OpenClaim := { program := "ytlepchdlkhogiaa", sum := "af41bc8f0b4766ba89490b7afa3d044c37757d7990450991c667ba9429ec137a", func := "mezzotint/mezzotintlaw.FrameChecks", spec := "frameChecks", unfollowed := true, recurses := true, apart := false }
def FrameChecksSaid : Prop := frameChecksRow.holds Try.pinned (OpenSpec.ofChange frameChecksSpec)

/-- ITS FALSE NEIGHBOUR: 'it returns false'. Refute it at one input. -/
def frameChecksWrong : ChangeSpec := { name := "frameChecks", fn := fun _ => fun
  | [d] => { results := [.lit (.bool false)], args := [d] }
  | _ => none }
def FrameChecksWrongFalsely : Prop := frameChecksRow.holds Try.pinned (OpenSpec.ofChange frameChecksWrong)

/-- 'mezzotintlaw.FilePacks': WHATEVER THE INPUT: true; the input reads as it did. -/
def filePacksSpec : ChangeSpec := { name := "filePacks", fn := fun _ => fun
  | [d] => { results := [.lit (.bool true)], args := [d] }
  | _ => none }
def filePacksRow : OpenClaim := { program := "ytlepchdlkhogiaa", sum := "af41bc8f0b4766ba89490b7afa3d044c37757d7990450991c667ba9429ec137a", func := "mezzotint/mezzotintlaw.FilePacks", spec := "filePacks", unfollowed := true, recurses := true, apart := false }
def FilePacksSaid : Prop := filePacksRow.holds Try.pinned (OpenSpec.ofChange filePacksSpec)

/-- ITS FALSE NEIGHBOUR: 'it returns false'. Refute it at one input. -/
def filePacksWrong : ChangeSpec := { name := "filePacks", fn := fun _ => fun
  | [d] => { results := [.lit (.bool false)], args := [d] }
  | _ => none }
def FilePacksWrongFalsely : Prop := filePacksRow.holds Try.pinned (OpenSpec.ofChange filePacksWrong)

/-- 'mezzotintlaw.FrameBlocks': WHATEVER THE INPUT: true; the input reads as it did. -/
def frameBlocksSpec : ChangeSpec := { name := "frameBlocks", fn := fun _ => fun
  | [d1, d2] => { results := [.lit (.bool true)], args := [d1, d2] }
  | _ => none }
def frameBlocksRow : OpenClaim := { program := "ytlepchdlkhogiaa", sum := "af41bc8f0b4766ba89490b7afa3d044c37757d7990450991c667ba9429ec137a", func := "mezzotint/mezzotintlaw.FrameBlocks", spec := "frameBlocks", unfollowed := true, recurses := true, apart := false }
def FrameBlocksSaid : Prop := frameBlocksRow.holds Try.pinned (OpenSpec.ofChange frameBlocksSpec)

/-- ITS FALSE NEIGHBOUR: 'it returns false'. Refute it at one input. -/
def frameBlocksWrong : ChangeSpec := { name := "frameBlocks", fn := fun _ => fun
  | [d1, d2] => { results := [.lit (.bool false)], args := [d1, d2] }
  | _ => none }
def FrameBlocksWrongFalsely : Prop := frameBlocksRow.holds Try.pinned (OpenSpec.ofChange frameBlocksWrong)

/-- 'mezzotintlaw.SegCounts': WHATEVER THE INPUT: true; the input reads as it did. -/
def segCountsSpec : ChangeSpec := { name := "segCounts", fn := fun _ => fun
  | [d] => { results := [.lit (.bool true)], args := [d] }
  | _ => none }
def segCountsRow : OpenClaim := { program := "ytlepchdlkhogiaa", sum := "af41bc8f0b4766ba89490b7afa3d044c37757d7990450991c667ba9429ec137a", func := "mezzotint/mezzotintlaw.SegCounts", spec := "segCounts", unfollowed := true, recurses := true, apart := false }
def SegCountsSaid : Prop := segCountsRow.holds Try.pinned (OpenSpec.ofChange segCountsSpec)

/-- ITS FALSE NEIGHBOUR: 'it returns false'. Refute it at one input. -/
def segCountsWrong : ChangeSpec := { name := "segCounts", fn := fun _ => fun
  | [d] => { results := [.lit (.bool false)], args := [d] }
  | _ => none }
def SegCountsWrongFalsely : Prop := segCountsRow.holds Try.pinned (OpenSpec.ofChange segCountsWrong)

/-- 'mezzotintlaw.RunBlocks': WHATEVER THE INPUT: true; the input reads as it did. -/
def runBlocksSpec : ChangeSpec := { name := "runBlocks", fn := fun _ => fun
  | [d1, d2] => { results := [.lit (.bool true)], args := [d1, d2] }
  | _ => none }
def runBlocksRow : OpenClaim := { program := "ytlepchdlkhogiaa", sum := "af41bc8f0b4766ba89490b7afa3d044c37757d7990450991c667ba9429ec137a", func := "mezzotint/mezzotintlaw.RunBlocks", spec := "runBlocks", unfollowed := true, recurses := true, apart := false }
def RunBlocksSaid : Prop := runBlocksRow.holds Try.pinned (OpenSpec.ofChange runBlocksSpec)

/-- ITS FALSE NEIGHBOUR: 'it returns false'. Refute it at one input. -/
def runBlocksWrong : ChangeSpec := { name := "runBlocks", fn := fun _ => fun
  | [d1, d2] => { results := [.lit (.bool false)], args := [d1, d2] }
  | _ => none }
def RunBlocksWrongFalsely : Prop := runBlocksRow.holds Try.pinned (OpenSpec.ofChange runBlocksWrong)

/- THE SECOND FORM. 'bulk': how many values and letters a reading holds, each counted each time it is reached (what is shared counts as often as it is met; a slice's spare places count too). A statement '..UptoSaid' is the law's where the arguments, and the package variables that the reading takes, are together of bulk at most 1048576: NARROWER than '..Said'. Prove '..Said' where nothing that the law and all that it calls make is longer than what came in: it says more and counts as full. Else prove '..UptoSaid'. A law counts once. -/
mutual
def uptoBulk {H : Type} : DataW H → Nat
  | .lit (.string bytes) => bytes.length + 1
  | .lit _ => 1
  | .nil => 1
  | .ptr d => uptoBulk d + 1
  | .slice elems spare => uptoBulkAll elems + uptoBulkAll spare + 1
  | .agg parts => uptoBulkAll parts + 1
  | .iface _ d => uptoBulk d + 1
  | .map entries => uptoBulkEntries entries + 1
  | .held _ => 1
def uptoBulkAll {H : Type} : List (DataW H) → Nat
  | [] => 0
  | d :: r => uptoBulk d + uptoBulkAll r
def uptoBulkEntries {H : Type} : List (Lit × DataW H) → Nat
  | [] => 0
  | x :: r => uptoBulkEntry x + uptoBulkEntries r
def uptoBulkEntry {H : Type} : Lit × DataW H → Nat
  | (.string bytes, d) => bytes.length + uptoBulk d + 1
  | (_, d) => uptoBulk d + 1
 end
def uptoSmall : (H : Type) → List (DataW H) → Bool := fun _ ds => decide (uptoBulkAll ds ≤ 1048576)
def OpenSpec.upto (s : _root_.Go.ChangeSpec) : _root_.Go.OpenSpec := { _root_.Go.OpenSpec.ofChange s with cond := some uptoSmall }

/-- 'mezzotintlaw.PlaneCuts', WHERE WHAT IT READS IS OF BULK AT MOST 1048576: true; the input reads as it did. -/
def planeCutsUptoRow : OpenClaim := { program := "ytlepchdlkhogiaa", sum := "af41bc8f0b4766ba89490b7afa3d044c37757d7990450991c667ba9429ec137a", func := "mezzotint/mezzotintlaw.PlaneCuts", spec := "planeCuts", unfollowed := true, recurses := true, apart := false, narrowed := true }
def PlaneCutsUptoSaid : Prop := planeCutsUptoRow.holds Try.pinned (OpenSpec.upto planeCutsSpec)

/-- 'mezzotintlaw.PlaneJoins', WHERE WHAT IT READS IS OF BULK AT MOST 1048576: true; the input reads as it did. -/
def planeJoinsUptoRow : OpenClaim := { program := "ytlepchdlkhogiaa", sum := "af41bc8f0b4766ba89490b7afa3d044c37757d7990450991c667ba9429ec137a", func := "mezzotint/mezzotintlaw.PlaneJoins", spec := "planeJoins", unfollowed := true, recurses := true, apart := false, narrowed := true }
def PlaneJoinsUptoSaid : Prop := planeJoinsUptoRow.holds Try.pinned (OpenSpec.upto planeJoinsSpec)

/-- 'mezzotintlaw.FrameChecks', WHERE WHAT IT READS IS OF BULK AT MOST 1048576: true; the input reads as it did. -/
def frameChecksUptoRow : OpenClaim := { program := "ytlepchdlkhogiaa", sum := "af41bc8f0b4766ba89490b7afa3d044c37757d7990450991c667ba9429ec137a", func := "mezzotint/mezzotintlaw.FrameChecks", spec := "frameChecks", unfollowed := true, recurses := true, apart := false, narrowed := true }
def FrameChecksUptoSaid : Prop := frameChecksUptoRow.holds Try.pinned (OpenSpec.upto frameChecksSpec)

/-- 'mezzotintlaw.FilePacks', WHERE WHAT IT READS IS OF BULK AT MOST 1048576: true; the input reads as it did. -/
def filePacksUptoRow : OpenClaim := { program := "ytlepchdlkhogiaa", sum := "af41bc8f0b4766ba89490b7afa3d044c37757d7990450991c667ba9429ec137a", func := "mezzotint/mezzotintlaw.FilePacks", spec := "filePacks", unfollowed := true, recurses := true, apart := false, narrowed := true }
def FilePacksUptoSaid : Prop := filePacksUptoRow.holds Try.pinned (OpenSpec.upto filePacksSpec)

/-- 'mezzotintlaw.FrameBlocks', WHERE WHAT IT READS IS OF BULK AT MOST 1048576: true; the input reads as it did. -/
def frameBlocksUptoRow : OpenClaim := { program := "ytlepchdlkhogiaa", sum := "af41bc8f0b4766ba89490b7afa3d044c37757d7990450991c667ba9429ec137a", func := "mezzotint/mezzotintlaw.FrameBlocks", spec := "frameBlocks", unfollowed := true, recurses := true, apart := false, narrowed := true }
def FrameBlocksUptoSaid : Prop := frameBlocksUptoRow.holds Try.pinned (OpenSpec.upto frameBlocksSpec)

/-- 'mezzotintlaw.SegCounts', WHERE WHAT IT READS IS OF BULK AT MOST 1048576: true; the input reads as it did. -/
def segCountsUptoRow : OpenClaim := { program := "ytlepchdlkhogiaa", sum := "af41bc8f0b4766ba89490b7afa3d044c37757d7990450991c667ba9429ec137a", func := "mezzotint/mezzotintlaw.SegCounts", spec := "segCounts", unfollowed := true, recurses := true, apart := false, narrowed := true }
def SegCountsUptoSaid : Prop := segCountsUptoRow.holds Try.pinned (OpenSpec.upto segCountsSpec)

/-- 'mezzotintlaw.RunBlocks', WHERE WHAT IT READS IS OF BULK AT MOST 1048576: true; the input reads as it did. -/
def runBlocksUptoRow : OpenClaim := { program := "ytlepchdlkhogiaa", sum := "af41bc8f0b4766ba89490b7afa3d044c37757d7990450991c667ba9429ec137a", func := "mezzotint/mezzotintlaw.RunBlocks", spec := "runBlocks", unfollowed := true, recurses := true, apart := false, narrowed := true }
def RunBlocksUptoSaid : Prop := runBlocksUptoRow.holds Try.pinned (OpenSpec.upto runBlocksSpec)

end Rows
end Go.Proofs.Ytlepchdlkhogiaa
