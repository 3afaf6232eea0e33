/-
  No cell of these rows narrows 'for every input' (looked for: loops, veiled, ifaces, maps, wideKeys, modest, calm, conditions, laid).
  DERIVED. THE GIVEN ROWS OF THIS SEAT. 12 by the template 'for every input the law returns true; each argument reads behind the call as it read before'; 0 by the template 'total and deterministic' (their statements: YtceplnjngbkjhaaTotals.lean).
  GIVEN WITH THE SEED: the statements are not yours to turn. If you find one false, say at which input.
  Laid BY PROGRAM, IN A SANDBOX (cutbox-rows.mjs): the forced cells as the released guide's own fill.sh prints them over the translation 6946f8a74f88f060… (all of the seat's roots in one cut). By AI agents, Wed Nov 11 2026. No macro, syntax, notation, axiom, sorry.
-/
import Derived.Test.YtceplnjngbkjhaaChecked
import GoSem.Claim
import GoSem.ClaimJoined
import GoSem.ClaimMapViews
import Derived.JoinedTies
import Derived.KernelRfl
namespace Go.Proofs.Ytceplnjngbkjhaa
/- THE CELL 'sum', in the pinned program and in every row, IS THE sha256 OF THE DUMP (.gsa) THAT YtceplnjngbkjhaaProg.lean LOADS. Nothing in Lean hashes anything: it is a label: what it is worth is what the hold of that sum in a sandbox is worth. -/
noncomputable def Try.pinned : Pinned := { name := "ytceplnjngbkjhaa", sum := "6946f8a74f88f060d490160dbc7b63420c600d346e351c1b8a49f26a8029beab", checked := Try.checked }
namespace Rows
def none {H : Type} : Left H := { results := [], args := [] }

/-- 'mezzotintlaw.Names': WHATEVER THE INPUT: true; the input reads as it did. -/
def namesSpec : ChangeSpec := { name := "names", fn := fun _ => fun
  | [] => { results := [.lit (.bool true)], args := [] }
  | _ => none }
def namesRow : OpenClaim := { program := "ytceplnjngbkjhaa", sum := "6946f8a74f88f060d490160dbc7b63420c600d346e351c1b8a49f26a8029beab", func := "mezzotint/mezzotintlaw.Names", spec := "names", apart := false }
def NamesSaid : Prop := namesRow.holds Try.pinned (OpenSpec.ofChange namesSpec)

/-- ITS FALSE NEIGHBOUR: 'it returns false'. Refute it at one input. -/
def namesWrong : ChangeSpec := { name := "names", fn := fun _ => fun
  | [] => { results := [.lit (.bool false)], args := [] }
  | _ => none }
def NamesWrongFalsely : Prop := namesRow.holds Try.pinned (OpenSpec.ofChange namesWrong)

/-- 'mezzotintlaw.StuffSplits': WHATEVER THE INPUT: true; the input reads as it did. -/
def stuffSplitsSpec : ChangeSpec := { name := "stuffSplits", fn := fun _ => fun
  | [d] => { results := [.lit (.bool true)], args := [d] }
  | _ => none }
def stuffSplitsRow : OpenClaim := { program := "ytceplnjngbkjhaa", sum := "6946f8a74f88f060d490160dbc7b63420c600d346e351c1b8a49f26a8029beab", func := "mezzotint/mezzotintlaw.StuffSplits", spec := "stuffSplits", apart := false }
def StuffSplitsSaid : Prop := stuffSplitsRow.holds Try.pinned (OpenSpec.ofChange stuffSplitsSpec)

/-- ITS FALSE NEIGHBOUR: 'it returns false'. Refute it at one input. -/
def stuffSplitsWrong : ChangeSpec := { name := "stuffSplits", fn := fun _ => fun
  | [d] => { results := [.lit (.bool false)], args := [d] }
  | _ => none }
def StuffSplitsWrongFalsely : Prop := stuffSplitsRow.holds Try.pinned (OpenSpec.ofChange stuffSplitsWrong)

/-- 'mezzotintlaw.WaveBasis': WHATEVER THE INPUT: true; the input reads as it did. -/
def waveBasisSpec : ChangeSpec := { name := "waveBasis", fn := fun _ => fun
  | [d1, d2] => { results := [.lit (.bool true)], args := [d1, d2] }
  | _ => none }
def waveBasisRow : OpenClaim := { program := "ytceplnjngbkjhaa", sum := "6946f8a74f88f060d490160dbc7b63420c600d346e351c1b8a49f26a8029beab", func := "mezzotint/mezzotintlaw.WaveBasis", spec := "waveBasis", recurses := true, apart := false }
def WaveBasisSaid : Prop := waveBasisRow.holds Try.pinned (OpenSpec.ofChange waveBasisSpec)

/-- ITS FALSE NEIGHBOUR: 'it returns false'. Refute it at one input. -/
def waveBasisWrong : ChangeSpec := { name := "waveBasis", fn := fun _ => fun
  | [d1, d2] => { results := [.lit (.bool false)], args := [d1, d2] }
  | _ => none }
def WaveBasisWrongFalsely : Prop := waveBasisRow.holds Try.pinned (OpenSpec.ofChange waveBasisWrong)

/-- 'mezzotintlaw.TintTells': WHATEVER THE INPUT: true; the input reads as it did. -/
def tintTellsSpec : ChangeSpec := { name := "tintTells", fn := fun _ => fun
  | [d1, d2, d3] => { results := [.lit (.bool true)], args := [d1, d2, d3] }
  | _ => none }
def tintTellsRow : OpenClaim := { program := "ytceplnjngbkjhaa", sum := "6946f8a74f88f060d490160dbc7b63420c600d346e351c1b8a49f26a8029beab", func := "mezzotint/mezzotintlaw.TintTells", spec := "tintTells", recurses := true, apart := false }
def TintTellsSaid : Prop := tintTellsRow.holds Try.pinned (OpenSpec.ofChange tintTellsSpec)

/-- ITS FALSE NEIGHBOUR: 'it returns false'. Refute it at one input. -/
def tintTellsWrong : ChangeSpec := { name := "tintTells", fn := fun _ => fun
  | [d1, d2, d3] => { results := [.lit (.bool false)], args := [d1, d2, d3] }
  | _ => none }
def TintTellsWrongFalsely : Prop := tintTellsRow.holds Try.pinned (OpenSpec.ofChange tintTellsWrong)

/-- 'mezzotintlaw.ZigOrders': WHATEVER THE INPUT: true; the input reads as it did. -/
def zigOrdersSpec : ChangeSpec := { name := "zigOrders", fn := fun _ => fun
  | [] => { results := [.lit (.bool true)], args := [] }
  | _ => none }
def zigOrdersRow : OpenClaim := { program := "ytceplnjngbkjhaa", sum := "6946f8a74f88f060d490160dbc7b63420c600d346e351c1b8a49f26a8029beab", func := "mezzotint/mezzotintlaw.ZigOrders", spec := "zigOrders", apart := false }
def ZigOrdersSaid : Prop := zigOrdersRow.holds Try.pinned (OpenSpec.ofChange zigOrdersSpec)

/-- ITS FALSE NEIGHBOUR: 'it returns false'. Refute it at one input. -/
def zigOrdersWrong : ChangeSpec := { name := "zigOrders", fn := fun _ => fun
  | [] => { results := [.lit (.bool false)], args := [] }
  | _ => none }
def ZigOrdersWrongFalsely : Prop := zigOrdersRow.holds Try.pinned (OpenSpec.ofChange zigOrdersWrong)

/-- 'mezzotintlaw.TintBacks': WHATEVER THE INPUT: true; the input reads as it did. -/
def tintBacksSpec : ChangeSpec := { name := "tintBacks", fn := fun _ => fun
  | [d1, d2, d3] => { results := [.lit (.bool true)], args := [d1, d2, d3] }
  | _ => none }
def tintBacksRow : OpenClaim := { program := "ytceplnjngbkjhaa", sum := "6946f8a74f88f060d490160dbc7b63420c600d346e351c1b8a49f26a8029beab", func := "mezzotint/mezzotintlaw.TintBacks", spec := "tintBacks", recurses := true, apart := false }
def TintBacksSaid : Prop := tintBacksRow.holds Try.pinned (OpenSpec.ofChange tintBacksSpec)

/-- ITS FALSE NEIGHBOUR: 'it returns false'. Refute it at one input. -/
def tintBacksWrong : ChangeSpec := { name := "tintBacks", fn := fun _ => fun
  | [d1, d2, d3] => { results := [.lit (.bool false)], args := [d1, d2, d3] }
  | _ => none }
def TintBacksWrongFalsely : Prop := tintBacksRow.holds Try.pinned (OpenSpec.ofChange tintBacksWrong)

/-- 'mezzotintlaw.TableChecks': WHATEVER THE INPUT: true; the input reads as it did. -/
def tableChecksSpec : ChangeSpec := { name := "tableChecks", fn := fun _ => fun
  | [d] => { results := [.lit (.bool true)], args := [d] }
  | _ => none }
def tableChecksRow : OpenClaim := { program := "ytceplnjngbkjhaa", sum := "6946f8a74f88f060d490160dbc7b63420c600d346e351c1b8a49f26a8029beab", func := "mezzotint/mezzotintlaw.TableChecks", spec := "tableChecks", apart := false }
def TableChecksSaid : Prop := tableChecksRow.holds Try.pinned (OpenSpec.ofChange tableChecksSpec)

/-- ITS FALSE NEIGHBOUR: 'it returns false'. Refute it at one input. -/
def tableChecksWrong : ChangeSpec := { name := "tableChecks", fn := fun _ => fun
  | [d] => { results := [.lit (.bool false)], args := [d] }
  | _ => none }
def TableChecksWrongFalsely : Prop := tableChecksRow.holds Try.pinned (OpenSpec.ofChange tableChecksWrong)

/-- 'mezzotintlaw.ZigTurns': WHATEVER THE INPUT: true; the input reads as it did. -/
def zigTurnsSpec : ChangeSpec := { name := "zigTurns", fn := fun _ => fun
  | [d] => { results := [.lit (.bool true)], args := [d] }
  | _ => none }
def zigTurnsRow : OpenClaim := { program := "ytceplnjngbkjhaa", sum := "6946f8a74f88f060d490160dbc7b63420c600d346e351c1b8a49f26a8029beab", func := "mezzotint/mezzotintlaw.ZigTurns", spec := "zigTurns", apart := false }
def ZigTurnsSaid : Prop := zigTurnsRow.holds Try.pinned (OpenSpec.ofChange zigTurnsSpec)

/-- ITS FALSE NEIGHBOUR: 'it returns false'. Refute it at one input. -/
def zigTurnsWrong : ChangeSpec := { name := "zigTurns", fn := fun _ => fun
  | [d] => { results := [.lit (.bool false)], args := [d] }
  | _ => none }
def ZigTurnsWrongFalsely : Prop := zigTurnsRow.holds Try.pinned (OpenSpec.ofChange zigTurnsWrong)

/-- 'mezzotintlaw.QuantUps': WHATEVER THE INPUT: true; the input reads as it did. -/
def quantUpsSpec : ChangeSpec := { name := "quantUps", fn := fun _ => fun
  | [d1, d2] => { results := [.lit (.bool true)], args := [d1, d2] }
  | _ => none }
def quantUpsRow : OpenClaim := { program := "ytceplnjngbkjhaa", sum := "6946f8a74f88f060d490160dbc7b63420c600d346e351c1b8a49f26a8029beab", func := "mezzotint/mezzotintlaw.QuantUps", spec := "quantUps", unfollowed := true, recurses := true, apart := false }
def QuantUpsSaid : Prop := quantUpsRow.holds Try.pinned (OpenSpec.ofChange quantUpsSpec)

/-- ITS FALSE NEIGHBOUR: 'it returns false'. Refute it at one input. -/
def quantUpsWrong : ChangeSpec := { name := "quantUps", fn := fun _ => fun
  | [d1, d2] => { results := [.lit (.bool false)], args := [d1, d2] }
  | _ => none }
def QuantUpsWrongFalsely : Prop := quantUpsRow.holds Try.pinned (OpenSpec.ofChange quantUpsWrong)

/-- 'mezzotintlaw.QuantScales': WHATEVER THE INPUT: true; the input reads as it did. -/
def quantScalesSpec : ChangeSpec := { name := "quantScales", fn := fun _ => fun
  | [d1, d2] => { results := [.lit (.bool true)], args := [d1, d2] }
  | _ => none }
def quantScalesRow : OpenClaim := { program := "ytceplnjngbkjhaa", sum := "6946f8a74f88f060d490160dbc7b63420c600d346e351c1b8a49f26a8029beab", func := "mezzotint/mezzotintlaw.QuantScales", spec := "quantScales", unfollowed := true, recurses := true, apart := false }
def QuantScalesSaid : Prop := quantScalesRow.holds Try.pinned (OpenSpec.ofChange quantScalesSpec)

/-- ITS FALSE NEIGHBOUR: 'it returns false'. Refute it at one input. -/
def quantScalesWrong : ChangeSpec := { name := "quantScales", fn := fun _ => fun
  | [d1, d2] => { results := [.lit (.bool false)], args := [d1, d2] }
  | _ => none }
def QuantScalesWrongFalsely : Prop := quantScalesRow.holds Try.pinned (OpenSpec.ofChange quantScalesWrong)

/-- 'mezzotintlaw.QuantDowns': WHATEVER THE INPUT: true; the input reads as it did. -/
def quantDownsSpec : ChangeSpec := { name := "quantDowns", fn := fun _ => fun
  | [d1, d2] => { results := [.lit (.bool true)], args := [d1, d2] }
  | _ => none }
def quantDownsRow : OpenClaim := { program := "ytceplnjngbkjhaa", sum := "6946f8a74f88f060d490160dbc7b63420c600d346e351c1b8a49f26a8029beab", func := "mezzotint/mezzotintlaw.QuantDowns", spec := "quantDowns", unfollowed := true, recurses := true, apart := false }
def QuantDownsSaid : Prop := quantDownsRow.holds Try.pinned (OpenSpec.ofChange quantDownsSpec)

/-- ITS FALSE NEIGHBOUR: 'it returns false'. Refute it at one input. -/
def quantDownsWrong : ChangeSpec := { name := "quantDowns", fn := fun _ => fun
  | [d1, d2] => { results := [.lit (.bool false)], args := [d1, d2] }
  | _ => none }
def QuantDownsWrongFalsely : Prop := quantDownsRow.holds Try.pinned (OpenSpec.ofChange quantDownsWrong)

/-- 'mezzotintlaw.SizeTells': WHATEVER THE INPUT: true; the input reads as it did. -/
def sizeTellsSpec : ChangeSpec := { name := "sizeTells", fn := fun _ => fun
  | [d] => { results := [.lit (.bool true)], args := [d] }
  | _ => none }
def sizeTellsRow : OpenClaim := { program := "ytceplnjngbkjhaa", sum := "6946f8a74f88f060d490160dbc7b63420c600d346e351c1b8a49f26a8029beab", func := "mezzotint/mezzotintlaw.SizeTells", spec := "sizeTells", apart := false }
def SizeTellsSaid : Prop := sizeTellsRow.holds Try.pinned (OpenSpec.ofChange sizeTellsSpec)

/-- ITS FALSE NEIGHBOUR: 'it returns false'. Refute it at one input. -/
def sizeTellsWrong : ChangeSpec := { name := "sizeTells", fn := fun _ => fun
  | [d] => { results := [.lit (.bool false)], args := [d] }
  | _ => none }
def SizeTellsWrongFalsely : Prop := sizeTellsRow.holds Try.pinned (OpenSpec.ofChange sizeTellsWrong)

/- THE SECOND FORM. 'bulk': how many values and letters a reading holds, each counted each time it is reached (what is shared counts as often as it is met; a slice's spare places count too). A statement '..UptoSaid' is the law's where the arguments, and the package variables that the reading takes, are together of bulk at most 1048576: NARROWER than '..Said'. Prove '..Said' where nothing that the law and all that it calls make is longer than what came in: it says more and counts as full. Else prove '..UptoSaid'. A law counts once. -/
mutual
def uptoBulk {H : Type} : DataW H → Nat
  | .lit (.string bytes) => bytes.length + 1
  | .lit _ => 1
  | .nil => 1
  | .ptr d => uptoBulk d + 1
  | .slice elems spare => uptoBulkAll elems + uptoBulkAll spare + 1
  | .agg parts => uptoBulkAll parts + 1
  | .iface _ d => uptoBulk d + 1
  | .map entries => uptoBulkEntries entries + 1
  | .held _ => 1
def uptoBulkAll {H : Type} : List (DataW H) → Nat
  | [] => 0
  | d :: r => uptoBulk d + uptoBulkAll r
def uptoBulkEntries {H : Type} : List (Lit × DataW H) → Nat
  | [] => 0
  | x :: r => uptoBulkEntry x + uptoBulkEntries r
def uptoBulkEntry {H : Type} : Lit × DataW H → Nat
  | (.string bytes, d) => bytes.length + uptoBulk d + 1
  | (_, d) => uptoBulk d + 1
 end
def uptoSmall : (H : Type) → List (DataW H) → Bool := fun _ ds => decide (uptoBulkAll ds ≤ 1048576)
def OpenSpec.upto (s : _root_.Go.ChangeSpec) : _root_.Go.OpenSpec := { _root_.Go.OpenSpec.ofChange s with cond := some uptoSmall }

/-- 'mezzotintlaw.Names', WHERE WHAT IT READS IS OF BULK AT MOST 1048576: true; the input reads as it did. -/
def namesUptoRow : OpenClaim := { program := "ytceplnjngbkjhaa", sum := "6946f8a74f88f060d490160dbc7b63420c600d346e351c1b8a49f26a8029beab", func := "mezzotint/mezzotintlaw.Names", spec := "names", apart := false, narrowed := true }
def NamesUptoSaid : Prop := namesUptoRow.holds Try.pinned (OpenSpec.upto namesSpec)

/-- 'mezzotintlaw.StuffSplits', WHERE WHAT IT READS IS OF BULK AT MOST 1048576: true; the input reads as it did. -/
def stuffSplitsUptoRow : OpenClaim := { program := "ytceplnjngbkjhaa", sum := "6946f8a74f88f060d490160dbc7b63420c600d346e351c1b8a49f26a8029beab", func := "mezzotint/mezzotintlaw.StuffSplits", spec := "stuffSplits", apart := false, narrowed := true }
def StuffSplitsUptoSaid : Prop := stuffSplitsUptoRow.holds Try.pinned (OpenSpec.upto stuffSplitsSpec)

/-- 'mezzotintlaw.WaveBasis', WHERE WHAT IT READS IS OF BULK AT MOST 1048576: true; the input reads as it did. -/
def waveBasisUptoRow : OpenClaim := { program := "ytceplnjngbkjhaa", sum := "6946f8a74f88f060d490160dbc7b63420c600d346e351c1b8a49f26a8029beab", func := "mezzotint/mezzotintlaw.WaveBasis", spec := "waveBasis", recurses := true, apart := false, narrowed := true }
def WaveBasisUptoSaid : Prop := waveBasisUptoRow.holds Try.pinned (OpenSpec.upto waveBasisSpec)

/-- 'mezzotintlaw.TintTells', WHERE WHAT IT READS IS OF BULK AT MOST 1048576: true; the input reads as it did. -/
def tintTellsUptoRow : OpenClaim := { program := "ytceplnjngbkjhaa", sum := "6946f8a74f88f060d490160dbc7b63420c600d346e351c1b8a49f26a8029beab", func := "mezzotint/mezzotintlaw.TintTells", spec := "tintTells", recurses := true, apart := false, narrowed := true }
def TintTellsUptoSaid : Prop := tintTellsUptoRow.holds Try.pinned (OpenSpec.upto tintTellsSpec)

/-- 'mezzotintlaw.ZigOrders', WHERE WHAT IT READS IS OF BULK AT MOST 1048576: true; the input reads as it did. -/
def zigOrdersUptoRow : OpenClaim := { program := "ytceplnjngbkjhaa", sum := "6946f8a74f88f060d490160dbc7b63420c600d346e351c1b8a49f26a8029beab", func := "mezzotint/mezzotintlaw.ZigOrders", spec := "zigOrders", apart := false, narrowed := true }
def ZigOrdersUptoSaid : Prop := zigOrdersUptoRow.holds Try.pinned (OpenSpec.upto zigOrdersSpec)

/-- 'mezzotintlaw.TintBacks', WHERE WHAT IT READS IS OF BULK AT MOST 1048576: true; the input reads as it did. -/
def tintBacksUptoRow : OpenClaim := { program := "ytceplnjngbkjhaa", sum := "6946f8a74f88f060d490160dbc7b63420c600d346e351c1b8a49f26a8029beab", func := "mezzotint/mezzotintlaw.TintBacks", spec := "tintBacks", recurses := true, apart := false, narrowed := true }
def TintBacksUptoSaid : Prop := tintBacksUptoRow.holds Try.pinned (OpenSpec.upto tintBacksSpec)

/-- 'mezzotintlaw.TableChecks', WHERE WHAT IT READS IS OF BULK AT MOST 1048576: true; the input reads as it did. -/
def tableChecksUptoRow : OpenClaim := { program := "ytceplnjngbkjhaa", sum := "6946f8a74f88f060d490160dbc7b63420c600d346e351c1b8a49f26a8029beab", func := "mezzotint/mezzotintlaw.TableChecks", spec := "tableChecks", apart := false, narrowed := true }
def TableChecksUptoSaid : Prop := tableChecksUptoRow.holds Try.pinned (OpenSpec.upto tableChecksSpec)

/-- 'mezzotintlaw.ZigTurns', WHERE WHAT IT READS IS OF BULK AT MOST 1048576: true; the input reads as it did. -/
def zigTurnsUptoRow : OpenClaim := { program := "ytceplnjngbkjhaa", sum := "6946f8a74f88f060d490160dbc7b63420c600d346e351c1b8a49f26a8029beab", func := "mezzotint/mezzotintlaw.ZigTurns", spec := "zigTurns", apart := false, narrowed := true }
def ZigTurnsUptoSaid : Prop := zigTurnsUptoRow.holds Try.pinned (OpenSpec.upto zigTurnsSpec)

/-- 'mezzotintlaw.QuantUps', WHERE WHAT IT READS IS OF BULK AT MOST 1048576: true; the input reads as it did. -/
def quantUpsUptoRow : OpenClaim := { program := "ytceplnjngbkjhaa", sum := "6946f8a74f88f060d490160dbc7b63420c600d346e351c1b8a49f26a8029beab", func := "mezzotint/mezzotintlaw.QuantUps", spec := "quantUps", unfollowed := true, recurses := true, apart := false, narrowed := true }
def QuantUpsUptoSaid : Prop := quantUpsUptoRow.holds Try.pinned (OpenSpec.upto quantUpsSpec)

/-- 'mezzotintlaw.QuantScales', WHERE WHAT IT READS IS OF BULK AT MOST 1048576: true; the input reads as it did. -/
def quantScalesUptoRow : OpenClaim := { program := "ytceplnjngbkjhaa", sum := "6946f8a74f88f060d490160dbc7b63420c600d346e351c1b8a49f26a8029beab", func := "mezzotint/mezzotintlaw.QuantScales", spec := "quantScales", unfollowed := true, recurses := true, apart := false, narrowed := true }
def QuantScalesUptoSaid : Prop := quantScalesUptoRow.holds Try.pinned (OpenSpec.upto quantScalesSpec)

/-- 'mezzotintlaw.QuantDowns', WHERE WHAT IT READS IS OF BULK AT MOST 1048576: true; the input reads as it did. -/
def quantDownsUptoRow : OpenClaim := { program := "ytceplnjngbkjhaa", sum := "6946f8a74f88f060d490160dbc7b63420c600d346e351c1b8a49f26a8029beab", func := "mezzotint/mezzotintlaw.QuantDowns", spec := "quantDowns", unfollowed := true, recurses := true, apart := false, narrowed := true }
def QuantDownsUptoSaid : Prop := quantDownsUptoRow.holds Try.pinned (OpenSpec.upto quantDownsSpec)

/-- 'mezzotintlaw.SizeTells', WHERE WHAT IT READS IS OF BULK AT MOST 1048576: true; the input reads as it did. -/
def sizeTellsUptoRow : OpenClaim := { program := "ytceplnjngbkjhaa", sum := "6946f8a74f88f060d490160dbc7b63420c600d346e351c1b8a49f26a8029beab", func := "mezzotint/mezzotintlaw.SizeTells", spec := "sizeTells", apart := false, narrowed := true }
def SizeTellsUptoSaid : Prop := sizeTellsUptoRow.holds Try.pinned (OpenSpec.upto sizeTellsSpec)

end Rows
end Go.Proofs.Ytceplnjngbkjhaa
