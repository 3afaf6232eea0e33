/-
  NARROWER THAN 'FOR EVERY INPUT', by the rows' own cells (each row's printed sentence says how): TopCoarse: laid · TopAcross: laid · TopFewest: laid · RescueHurts: laid · RescueDecodes: laid · FrameDecodes: laid · FrameEncodes: laid · TopHurt: laid.
  DERIVED. THE GIVEN ROWS OF THIS SEAT. 8 by the template 'for every input the law returns true; each argument reads behind the call as it read before'; 0 by the template 'total and deterministic' (their statements: YtkggcjdlpendfaaGreatDoorTotals.lean).
  GIVEN WITH THE SEED: the statements are not yours to turn. If you find one false, say at which input.
  Laid BY PROGRAM, IN A SANDBOX (cutbox-rows.mjs): the forced cells as the released guide's own fill.sh prints them over the translation c925fc27bd8f7a2a… (all of the seat's roots in one cut). By AI agents, Wed Nov 11 2026. No macro, syntax, notation, axiom, sorry.
-/
import Derived.Test.YtkggcjdlpendfaaGreatDoorChecked
import GoSem.PinnedTables
import GoSem.Claim
import GoSem.ClaimJoined
import GoSem.ClaimMapViews
import Derived.JoinedTies
import Derived.KernelRfl
namespace Go.Proofs.YtkggcjdlpendfaaGreatDoor
/- THE CELL 'sum', in the pinned program and in every row, IS THE sha256 OF THE DUMP (.gsa) THAT YtkggcjdlpendfaaGreatDoorProg.lean LOADS. Nothing in Lean hashes anything: it is a label: what it is worth is what the hold of that sum in a sandbox is worth. -/
noncomputable def Tryz.pinned : Pinned := { name := "ytkggcjdlpendfaagreatdoor", sum := "c925fc27bd8f7a2ad8f8a59a544d4c635d4d770f83b168c6b8b6e0c9ebe5bd09", checked := Tryz.checked }
namespace Rows
def none {H : Type} : Left H := { results := [], args := [] }

/- WHAT THE LISTED PACKAGE-LEVEL VARIABLES READ AS WHEN THE CALL BEGINS. Each datum BY PROGRAM (the guide's laid-datum.mjs) off the statement by which the dump's own 'gosem.cut.vars' lays the variable. In a bare row this is a premise. The card (YtkggcjdlpendfaaGreatDoorCards.lean) ties it to the program's text. -/
def laid_unicode_utf8_acceptRanges {H : Type} : DataW H := .agg [.agg [.lit (.int .u8 128), .lit (.int .u8 191)], .agg [.lit (.int .u8 160), .lit (.int .u8 191)], .agg [.lit (.int .u8 128), .lit (.int .u8 159)], .agg [.lit (.int .u8 144), .lit (.int .u8 191)], .agg [.lit (.int .u8 128), .lit (.int .u8 143)], .agg [.lit (.int .u8 0), .lit (.int .u8 0)], .agg [.lit (.int .u8 0), .lit (.int .u8 0)], .agg [.lit (.int .u8 0), .lit (.int .u8 0)], .agg [.lit (.int .u8 0), .lit (.int .u8 0)], .agg [.lit (.int .u8 0), .lit (.int .u8 0)], .agg [.lit (.int .u8 0), .lit (.int .u8 0)], .agg [.lit (.int .u8 0), .lit (.int .u8 0)], .agg [.lit (.int .u8 0), .lit (.int .u8 0)], .agg [.lit (.int .u8 0), .lit (.int .u8 0)], .agg [.lit (.int .u8 0), .lit (.int .u8 0)], .agg [.lit (.int .u8 0), .lit (.int .u8 0)]]
/-- One of Go's own tables, pinned by name: the form's constant. -/
def laid_unicode_utf8_first : DataW Unit := Go.Pinned.utf8First

/-- 'mezzotinttop.TopCoarse': WHATEVER THE INPUT: true; the input reads as it did. -/
def topCoarseSpec : ChangeSpec := { name := "topCoarse", fn := fun _ => fun
  | [d1, d2, d3] => { results := [.lit (.bool true)], args := [d1, d2, d3] }
  | _ => none }
def topCoarseRow : OpenClaim := { program := "ytkggcjdlpendfaagreatdoor", sum := "c925fc27bd8f7a2ad8f8a59a544d4c635d4d770f83b168c6b8b6e0c9ebe5bd09", func := "mezzotint/mezzotinttop.TopCoarse", spec := "topCoarse", inPlace := ["internal/bytealg.Count", "internal/bytealg.IndexByte", "internal/bytealg.Index"], unfollowed := true, recurses := true, named := ["internal/bytealg.MaxLen", "unicode/utf8.first", "unicode/utf8.acceptRanges"], plainKeys := false, apart := false, laid := [("unicode/utf8.acceptRanges", laid_unicode_utf8_acceptRanges), ("unicode/utf8.first", laid_unicode_utf8_first)] }
def TopCoarseSaid : Prop := topCoarseRow.holds Tryz.pinned (OpenSpec.ofChange topCoarseSpec)

/-- ITS FALSE NEIGHBOUR: 'it returns false'. Refute it at one input. -/
def topCoarseWrong : ChangeSpec := { name := "topCoarse", fn := fun _ => fun
  | [d1, d2, d3] => { results := [.lit (.bool false)], args := [d1, d2, d3] }
  | _ => none }
def TopCoarseWrongFalsely : Prop := topCoarseRow.holds Tryz.pinned (OpenSpec.ofChange topCoarseWrong)

/-- 'mezzotinttop.TopAcross': WHATEVER THE INPUT: true; the input reads as it did. -/
def topAcrossSpec : ChangeSpec := { name := "topAcross", fn := fun _ => fun
  | [d1, d2, d3, d4] => { results := [.lit (.bool true)], args := [d1, d2, d3, d4] }
  | _ => none }
def topAcrossRow : OpenClaim := { program := "ytkggcjdlpendfaagreatdoor", sum := "c925fc27bd8f7a2ad8f8a59a544d4c635d4d770f83b168c6b8b6e0c9ebe5bd09", func := "mezzotint/mezzotinttop.TopAcross", spec := "topAcross", inPlace := ["internal/bytealg.Count", "internal/bytealg.IndexByte", "internal/bytealg.Index"], unfollowed := true, recurses := true, named := ["internal/bytealg.MaxLen", "unicode/utf8.first", "unicode/utf8.acceptRanges"], plainKeys := false, apart := false, laid := [("unicode/utf8.acceptRanges", laid_unicode_utf8_acceptRanges), ("unicode/utf8.first", laid_unicode_utf8_first)] }
def TopAcrossSaid : Prop := topAcrossRow.holds Tryz.pinned (OpenSpec.ofChange topAcrossSpec)

/-- ITS FALSE NEIGHBOUR: 'it returns false'. Refute it at one input. -/
def topAcrossWrong : ChangeSpec := { name := "topAcross", fn := fun _ => fun
  | [d1, d2, d3, d4] => { results := [.lit (.bool false)], args := [d1, d2, d3, d4] }
  | _ => none }
def TopAcrossWrongFalsely : Prop := topAcrossRow.holds Tryz.pinned (OpenSpec.ofChange topAcrossWrong)

/-- 'mezzotinttop.TopFewest': WHATEVER THE INPUT: true; the input reads as it did. -/
def topFewestSpec : ChangeSpec := { name := "topFewest", fn := fun _ => fun
  | [d1, d2, d3, d4] => { results := [.lit (.bool true)], args := [d1, d2, d3, d4] }
  | _ => none }
def topFewestRow : OpenClaim := { program := "ytkggcjdlpendfaagreatdoor", sum := "c925fc27bd8f7a2ad8f8a59a544d4c635d4d770f83b168c6b8b6e0c9ebe5bd09", func := "mezzotint/mezzotinttop.TopFewest", spec := "topFewest", inPlace := ["internal/bytealg.Count", "internal/bytealg.IndexByte", "internal/bytealg.Index"], unfollowed := true, recurses := true, named := ["internal/bytealg.MaxLen", "unicode/utf8.first", "unicode/utf8.acceptRanges"], plainKeys := false, apart := false, laid := [("unicode/utf8.acceptRanges", laid_unicode_utf8_acceptRanges), ("unicode/utf8.first", laid_unicode_utf8_first)] }
def TopFewestSaid : Prop := topFewestRow.holds Tryz.pinned (OpenSpec.ofChange topFewestSpec)

/-- ITS FALSE NEIGHBOUR: 'it returns false'. Refute it at one input. -/
def topFewestWrong : ChangeSpec := { name := "topFewest", fn := fun _ => fun
  | [d1, d2, d3, d4] => { results := [.lit (.bool false)], args := [d1, d2, d3, d4] }
  | _ => none }
def TopFewestWrongFalsely : Prop := topFewestRow.holds Tryz.pinned (OpenSpec.ofChange topFewestWrong)

/-- 'mezzotintlaw.RescueHurts': WHATEVER THE INPUT: true; the input reads as it did. -/
def rescueHurtsSpec : ChangeSpec := { name := "rescueHurts", fn := fun _ => fun
  | [d1, d2] => { results := [.lit (.bool true)], args := [d1, d2] }
  | _ => none }
def rescueHurtsRow : OpenClaim := { program := "ytkggcjdlpendfaagreatdoor", sum := "c925fc27bd8f7a2ad8f8a59a544d4c635d4d770f83b168c6b8b6e0c9ebe5bd09", func := "mezzotint/mezzotintlaw.RescueHurts", spec := "rescueHurts", inPlace := ["internal/bytealg.Count", "internal/bytealg.IndexByte", "internal/bytealg.Index"], unfollowed := true, recurses := true, named := ["internal/bytealg.MaxLen", "unicode/utf8.first", "unicode/utf8.acceptRanges"], plainKeys := false, apart := false, laid := [("unicode/utf8.acceptRanges", laid_unicode_utf8_acceptRanges), ("unicode/utf8.first", laid_unicode_utf8_first)] }
def RescueHurtsSaid : Prop := rescueHurtsRow.holds Tryz.pinned (OpenSpec.ofChange rescueHurtsSpec)

/-- ITS FALSE NEIGHBOUR: 'it returns false'. Refute it at one input. -/
def rescueHurtsWrong : ChangeSpec := { name := "rescueHurts", fn := fun _ => fun
  | [d1, d2] => { results := [.lit (.bool false)], args := [d1, d2] }
  | _ => none }
def RescueHurtsWrongFalsely : Prop := rescueHurtsRow.holds Tryz.pinned (OpenSpec.ofChange rescueHurtsWrong)

/-- 'mezzotintlaw.RescueDecodes': WHATEVER THE INPUT: true; the input reads as it did. -/
def rescueDecodesSpec : ChangeSpec := { name := "rescueDecodes", fn := fun _ => fun
  | [d] => { results := [.lit (.bool true)], args := [d] }
  | _ => none }
def rescueDecodesRow : OpenClaim := { program := "ytkggcjdlpendfaagreatdoor", sum := "c925fc27bd8f7a2ad8f8a59a544d4c635d4d770f83b168c6b8b6e0c9ebe5bd09", func := "mezzotint/mezzotintlaw.RescueDecodes", spec := "rescueDecodes", inPlace := ["internal/bytealg.Count", "internal/bytealg.IndexByte", "internal/bytealg.Index", "internal/abi.NoEscape", "internal/bytealg.IndexByteString", "internal/bytealg.IndexString"], unfollowed := true, recurses := true, named := ["internal/bytealg.MaxLen", "unicode/utf8.first", "unicode/utf8.acceptRanges"], plainKeys := false, apart := false, laid := [("unicode/utf8.acceptRanges", laid_unicode_utf8_acceptRanges), ("unicode/utf8.first", laid_unicode_utf8_first)] }
def RescueDecodesSaid : Prop := rescueDecodesRow.holds Tryz.pinned (OpenSpec.ofChange rescueDecodesSpec)

/-- ITS FALSE NEIGHBOUR: 'it returns false'. Refute it at one input. -/
def rescueDecodesWrong : ChangeSpec := { name := "rescueDecodes", fn := fun _ => fun
  | [d] => { results := [.lit (.bool false)], args := [d] }
  | _ => none }
def RescueDecodesWrongFalsely : Prop := rescueDecodesRow.holds Tryz.pinned (OpenSpec.ofChange rescueDecodesWrong)

/-- 'mezzotintlaw.FrameDecodes': WHATEVER THE INPUT: true; the input reads as it did. -/
def frameDecodesSpec : ChangeSpec := { name := "frameDecodes", fn := fun _ => fun
  | [d] => { results := [.lit (.bool true)], args := [d] }
  | _ => none }
def frameDecodesRow : OpenClaim := { program := "ytkggcjdlpendfaagreatdoor", sum := "c925fc27bd8f7a2ad8f8a59a544d4c635d4d770f83b168c6b8b6e0c9ebe5bd09", func := "mezzotint/mezzotintlaw.FrameDecodes", spec := "frameDecodes", inPlace := ["internal/bytealg.Count", "internal/bytealg.IndexByte", "internal/bytealg.Index", "internal/abi.NoEscape", "internal/bytealg.IndexByteString", "internal/bytealg.IndexString"], unfollowed := true, recurses := true, named := ["internal/bytealg.MaxLen", "unicode/utf8.first", "unicode/utf8.acceptRanges"], plainKeys := false, apart := false, laid := [("unicode/utf8.acceptRanges", laid_unicode_utf8_acceptRanges), ("unicode/utf8.first", laid_unicode_utf8_first)] }
def FrameDecodesSaid : Prop := frameDecodesRow.holds Tryz.pinned (OpenSpec.ofChange frameDecodesSpec)

/-- ITS FALSE NEIGHBOUR: 'it returns false'. Refute it at one input. -/
def frameDecodesWrong : ChangeSpec := { name := "frameDecodes", fn := fun _ => fun
  | [d] => { results := [.lit (.bool false)], args := [d] }
  | _ => none }
def FrameDecodesWrongFalsely : Prop := frameDecodesRow.holds Tryz.pinned (OpenSpec.ofChange frameDecodesWrong)

/-- 'mezzotintlaw.FrameEncodes': WHATEVER THE INPUT: true; the input reads as it did. -/
def frameEncodesSpec : ChangeSpec := { name := "frameEncodes", fn := fun _ => fun
  | [d1, d2, d3] => { results := [.lit (.bool true)], args := [d1, d2, d3] }
  | _ => none }
def frameEncodesRow : OpenClaim := { program := "ytkggcjdlpendfaagreatdoor", sum := "c925fc27bd8f7a2ad8f8a59a544d4c635d4d770f83b168c6b8b6e0c9ebe5bd09", func := "mezzotint/mezzotintlaw.FrameEncodes", spec := "frameEncodes", inPlace := ["internal/bytealg.Count", "internal/bytealg.IndexByte", "internal/bytealg.Index", "internal/abi.NoEscape"], unfollowed := true, recurses := true, named := ["internal/bytealg.MaxLen", "unicode/utf8.first", "unicode/utf8.acceptRanges"], plainKeys := false, apart := false, laid := [("unicode/utf8.acceptRanges", laid_unicode_utf8_acceptRanges), ("unicode/utf8.first", laid_unicode_utf8_first)] }
def FrameEncodesSaid : Prop := frameEncodesRow.holds Tryz.pinned (OpenSpec.ofChange frameEncodesSpec)

/-- ITS FALSE NEIGHBOUR: 'it returns false'. Refute it at one input. -/
def frameEncodesWrong : ChangeSpec := { name := "frameEncodes", fn := fun _ => fun
  | [d1, d2, d3] => { results := [.lit (.bool false)], args := [d1, d2, d3] }
  | _ => none }
def FrameEncodesWrongFalsely : Prop := frameEncodesRow.holds Tryz.pinned (OpenSpec.ofChange frameEncodesWrong)

/-- 'mezzotinttop.TopHurt': WHATEVER THE INPUT: true; the input reads as it did. -/
def topHurtSpec : ChangeSpec := { name := "topHurt", fn := fun _ => fun
  | [d1, d2, d3, d4, d5] => { results := [.lit (.bool true)], args := [d1, d2, d3, d4, d5] }
  | _ => none }
def topHurtRow : OpenClaim := { program := "ytkggcjdlpendfaagreatdoor", sum := "c925fc27bd8f7a2ad8f8a59a544d4c635d4d770f83b168c6b8b6e0c9ebe5bd09", func := "mezzotint/mezzotinttop.TopHurt", spec := "topHurt", inPlace := ["internal/bytealg.Count", "internal/bytealg.IndexByte", "internal/bytealg.Index"], unfollowed := true, recurses := true, named := ["internal/bytealg.MaxLen", "unicode/utf8.first", "unicode/utf8.acceptRanges"], plainKeys := false, apart := false, laid := [("unicode/utf8.acceptRanges", laid_unicode_utf8_acceptRanges), ("unicode/utf8.first", laid_unicode_utf8_first)] }
def TopHurtSaid : Prop := topHurtRow.holds Tryz.pinned (OpenSpec.ofChange topHurtSpec)

/-- ITS FALSE NEIGHBOUR: 'it returns false'. Refute it at one input. -/
def topHurtWrong : ChangeSpec := { name := "topHurt", fn := fun _ => fun
  | [d1, d2, d3, d4, d5] => { results := [.lit (.bool false)], args := [d1, d2, d3, d4, d5] }
  | _ => none }
def TopHurtWrongFalsely : Prop := topHurtRow.holds Tryz.pinned (OpenSpec.ofChange topHurtWrong)

/- THE SECOND FORM. 'bulk': how many values and letters a reading holds, each counted each time it is reached (what is shared counts as often as it is met; a slice's spare places count too). A statement '..UptoSaid' is the law's where the arguments, and the package variables that the reading takes, are together of bulk at most 1048576: NARROWER than '..Said'. Prove '..Said' where nothing that the law and all that it calls make is longer than what came in: it says more and counts as full. Else prove '..UptoSaid'. A law counts once. -/
mutual
def uptoBulk {H : Type} : DataW H → Nat
  | .lit (.string bytes) => bytes.length + 1
  | .lit _ => 1
  | .nil => 1
  | .ptr d => uptoBulk d + 1
  | .slice elems spare => uptoBulkAll elems + uptoBulkAll spare + 1
  | .agg parts => uptoBulkAll parts + 1
  | .iface _ d => uptoBulk d + 1
  | .map entries => uptoBulkEntries entries + 1
  | .held _ => 1
def uptoBulkAll {H : Type} : List (DataW H) → Nat
  | [] => 0
  | d :: r => uptoBulk d + uptoBulkAll r
def uptoBulkEntries {H : Type} : List (Lit × DataW H) → Nat
  | [] => 0
  | x :: r => uptoBulkEntry x + uptoBulkEntries r
def uptoBulkEntry {H : Type} : Lit × DataW H → Nat
  | (.string bytes, d) => bytes.length + uptoBulk d + 1
  | (_, d) => uptoBulk d + 1
 end
def uptoSmall : (H : Type) → List (DataW H) → Bool := fun _ ds => decide (uptoBulkAll ds ≤ 1048576)
def OpenSpec.upto (s : _root_.Go.ChangeSpec) : _root_.Go.OpenSpec := { _root_.Go.OpenSpec.ofChange s with cond := some uptoSmall }

/-- 'mezzotinttop.TopCoarse', WHERE WHAT IT READS IS OF BULK AT MOST 1048576: true; the input reads as it did. -/
def topCoarseUptoRow : OpenClaim := { program := "ytkggcjdlpendfaagreatdoor", sum := "c925fc27bd8f7a2ad8f8a59a544d4c635d4d770f83b168c6b8b6e0c9ebe5bd09", func := "mezzotint/mezzotinttop.TopCoarse", spec := "topCoarse", inPlace := ["internal/bytealg.Count", "internal/bytealg.IndexByte", "internal/bytealg.Index"], unfollowed := true, recurses := true, named := ["internal/bytealg.MaxLen", "unicode/utf8.first", "unicode/utf8.acceptRanges"], plainKeys := false, apart := false, laid := [("unicode/utf8.acceptRanges", laid_unicode_utf8_acceptRanges), ("unicode/utf8.first", laid_unicode_utf8_first)], narrowed := true }
def TopCoarseUptoSaid : Prop := topCoarseUptoRow.holds Tryz.pinned (OpenSpec.upto topCoarseSpec)

/-- 'mezzotinttop.TopAcross', WHERE WHAT IT READS IS OF BULK AT MOST 1048576: true; the input reads as it did. -/
def topAcrossUptoRow : OpenClaim := { program := "ytkggcjdlpendfaagreatdoor", sum := "c925fc27bd8f7a2ad8f8a59a544d4c635d4d770f83b168c6b8b6e0c9ebe5bd09", func := "mezzotint/mezzotinttop.TopAcross", spec := "topAcross", inPlace := ["internal/bytealg.Count", "internal/bytealg.IndexByte", "internal/bytealg.Index"], unfollowed := true, recurses := true, named := ["internal/bytealg.MaxLen", "unicode/utf8.first", "unicode/utf8.acceptRanges"], plainKeys := false, apart := false, laid := [("unicode/utf8.acceptRanges", laid_unicode_utf8_acceptRanges), ("unicode/utf8.first", laid_unicode_utf8_first)], narrowed := true }
def TopAcrossUptoSaid : Prop := topAcrossUptoRow.holds Tryz.pinned (OpenSpec.upto topAcrossSpec)

/-- 'mezzotinttop.TopFewest', WHERE WHAT IT READS IS OF BULK AT MOST 1048576: true; the input reads as it did. -/
def topFewestUptoRow : OpenClaim := { program := "ytkggcjdlpendfaagreatdoor", sum := "c925fc27bd8f7a2ad8f8a59a544d4c635d4d770f83b168c6b8b6e0c9ebe5bd09", func := "mezzotint/mezzotinttop.TopFewest", spec := "topFewest", inPlace := ["internal/bytealg.Count", "internal/bytealg.IndexByte", "internal/bytealg.Index"], unfollowed := true, recurses := true, named := ["internal/bytealg.MaxLen", "unicode/utf8.first", "unicode/utf8.acceptRanges"], plainKeys := false, apart := false, laid := [("unicode/utf8.acceptRanges", laid_unicode_utf8_acceptRanges), ("unicode/utf8.first", laid_unicode_utf8_first)], narrowed := true }
def TopFewestUptoSaid : Prop := topFewestUptoRow.holds Tryz.pinned (OpenSpec.upto topFewestSpec)

/-- 'mezzotintlaw.RescueHurts', WHERE WHAT IT READS IS OF BULK AT MOST 1048576: true; the input reads as it did. -/
def rescueHurtsUptoRow : OpenClaim := { program := "ytkggcjdlpendfaagreatdoor", sum := "c925fc27bd8f7a2ad8f8a59a544d4c635d4d770f83b168c6b8b6e0c9ebe5bd09", func := "mezzotint/mezzotintlaw.RescueHurts", spec := "rescueHurts", inPlace := ["internal/bytealg.Count", "internal/bytealg.IndexByte", "internal/bytealg.Index"], unfollowed := true, recurses := true, named := ["internal/bytealg.MaxLen", "unicode/utf8.first", "unicode/utf8.acceptRanges"], plainKeys := false, apart := false, laid := [("unicode/utf8.acceptRanges", laid_unicode_utf8_acceptRanges), ("unicode/utf8.first", laid_unicode_utf8_first)], narrowed := true }
def RescueHurtsUptoSaid : Prop := rescueHurtsUptoRow.holds Tryz.pinned (OpenSpec.upto rescueHurtsSpec)

/-- 'mezzotintlaw.RescueDecodes', WHERE WHAT IT READS IS OF BULK AT MOST 1048576: true; the input reads as it did. -/
def rescueDecodesUptoRow : OpenClaim := { program := "ytkggcjdlpendfaagreatdoor", sum := "c925fc27bd8f7a2ad8f8a59a544d4c635d4d770f83b168c6b8b6e0c9ebe5bd09", func := "mezzotint/mezzotintlaw.RescueDecodes", spec := "rescueDecodes", inPlace := ["internal/bytealg.Count", "internal/bytealg.IndexByte", "internal/bytealg.Index", "internal/abi.NoEscape", "internal/bytealg.IndexByteString", "internal/bytealg.IndexString"], unfollowed := true, recurses := true, named := ["internal/bytealg.MaxLen", "unicode/utf8.first", "unicode/utf8.acceptRanges"], plainKeys := false, apart := false, laid := [("unicode/utf8.acceptRanges", laid_unicode_utf8_acceptRanges), ("unicode/utf8.first", laid_unicode_utf8_first)], narrowed := true }
def RescueDecodesUptoSaid : Prop := rescueDecodesUptoRow.holds Tryz.pinned (OpenSpec.upto rescueDecodesSpec)

/-- 'mezzotintlaw.FrameDecodes', WHERE WHAT IT READS IS OF BULK AT MOST 1048576: true; the input reads as it did. -/
def frameDecodesUptoRow : OpenClaim := { program := "ytkggcjdlpendfaagreatdoor", sum := "c925fc27bd8f7a2ad8f8a59a544d4c635d4d770f83b168c6b8b6e0c9ebe5bd09", func := "mezzotint/mezzotintlaw.FrameDecodes", spec := "frameDecodes", inPlace := ["internal/bytealg.Count", "internal/bytealg.IndexByte", "internal/bytealg.Index", "internal/abi.NoEscape", "internal/bytealg.IndexByteString", "internal/bytealg.IndexString"], unfollowed := true, recurses := true, named := ["internal/bytealg.MaxLen", "unicode/utf8.first", "unicode/utf8.acceptRanges"], plainKeys := false, apart := false, laid := [("unicode/utf8.acceptRanges", laid_unicode_utf8_acceptRanges), ("unicode/utf8.first", laid_unicode_utf8_first)], narrowed := true }
def FrameDecodesUptoSaid : Prop := frameDecodesUptoRow.holds Tryz.pinned (OpenSpec.upto frameDecodesSpec)

/-- 'mezzotintlaw.FrameEncodes', WHERE WHAT IT READS IS OF BULK AT MOST 1048576: true; the input reads as it did. -/
def frameEncodesUptoRow : OpenClaim := { program := "ytkggcjdlpendfaagreatdoor", sum := "c925fc27bd8f7a2ad8f8a59a544d4c635d4d770f83b168c6b8b6e0c9ebe5bd09", func := "mezzotint/mezzotintlaw.FrameEncodes", spec := "frameEncodes", inPlace := ["internal/bytealg.Count", "internal/bytealg.IndexByte", "internal/bytealg.Index", "internal/abi.NoEscape"], unfollowed := true, recurses := true, named := ["internal/bytealg.MaxLen", "unicode/utf8.first", "unicode/utf8.acceptRanges"], plainKeys := false, apart := false, laid := [("unicode/utf8.acceptRanges", laid_unicode_utf8_acceptRanges), ("unicode/utf8.first", laid_unicode_utf8_first)], narrowed := true }
def FrameEncodesUptoSaid : Prop := frameEncodesUptoRow.holds Tryz.pinned (OpenSpec.upto frameEncodesSpec)

/-- 'mezzotinttop.TopHurt', WHERE WHAT IT READS IS OF BULK AT MOST 1048576: true; the input reads as it did. -/
def topHurtUptoRow : OpenClaim := { program := "ytkggcjdlpendfaagreatdoor", sum := "c925fc27bd8f7a2ad8f8a59a544d4c635d4d770f83b168c6b8b6e0c9ebe5bd09", func := "mezzotint/mezzotinttop.TopHurt", spec := "topHurt", inPlace := ["internal/bytealg.Count", "internal/bytealg.IndexByte", "internal/bytealg.Index"], unfollowed := true, recurses := true, named := ["internal/bytealg.MaxLen", "unicode/utf8.first", "unicode/utf8.acceptRanges"], plainKeys := false, apart := false, laid := [("unicode/utf8.acceptRanges", laid_unicode_utf8_acceptRanges), ("unicode/utf8.first", laid_unicode_utf8_first)], narrowed := true }
def TopHurtUptoSaid : Prop := topHurtUptoRow.holds Tryz.pinned (OpenSpec.upto topHurtSpec)

end Rows
end Go.Proofs.YtkggcjdlpendfaaGreatDoor
