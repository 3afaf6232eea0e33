/-
  No cell of these rows narrows 'for every input' (looked for: loops, veiled, ifaces, maps, wideKeys, modest, calm, conditions, laid).
  DERIVED. THE GIVEN ROWS OF THIS SEAT. 5 by the template 'for every input the law returns true; each argument reads behind the call as it read before'; 0 by the template 'total and deterministic' (their statements: YtpkaimpidhcoiaaTotals.lean).
  GIVEN WITH THE SEED: the statements are not yours to turn. If you find one false, say at which input.
  Laid BY PROGRAM, IN A SANDBOX (cutbox-rows.mjs): the forced cells as the released guide's own fill.sh prints them over the translation 6aa2f87ce8f04eff… (all of the seat's roots in one cut). By AI agents, Wed Nov 11 2026. No macro, syntax, notation, axiom, sorry.
-/
import Derived.Test.YtpkaimpidhcoiaaChecked
import GoSem.Claim
import GoSem.ClaimJoined
import GoSem.ClaimMapViews
import Derived.JoinedTies
import Derived.KernelRfl
namespace Go.Proofs.Ytpkaimpidhcoiaa
/- THE CELL 'sum', in the pinned program and in every row, IS THE sha256 OF THE DUMP (.gsa) THAT YtpkaimpidhcoiaaProg.lean LOADS. Nothing in Lean hashes anything: it is a label: what it is worth is what the hold of that sum in a sandbox is worth. -/
noncomputable def Try.pinned : Pinned := { name := "ytpkaimpidhcoiaa", sum := "6aa2f87ce8f04eff14d54f5df05cd3f2925e1f07e7a4e23a419ccb819ec5e935", checked := Try.checked }
namespace Rows
def none {H : Type} : Left H := { results := [], args := [] }

/-- 'mezzotintlaw.TintTells': WHATEVER THE INPUT: true; the input reads as it did. -/
def tintTellsSpec : ChangeSpec := { name := "tintTells", fn := fun _ => fun
  | [d1, d2, d3] => { results := [.lit (.bool true)], args := [d1, d2, d3] }
  | _ => none }
def tintTellsRow : OpenClaim := { program := "ytpkaimpidhcoiaa", sum := "6aa2f87ce8f04eff14d54f5df05cd3f2925e1f07e7a4e23a419ccb819ec5e935", func := "mezzotint/mezzotintlaw.TintTells", spec := "tintTells", recurses := true, apart := false }
def TintTellsSaid : Prop := tintTellsRow.holds Try.pinned (OpenSpec.ofChange tintTellsSpec)

/-- ITS FALSE NEIGHBOUR: 'it returns false'. Refute it at one input. -/
def tintTellsWrong : ChangeSpec := { name := "tintTells", fn := fun _ => fun
  | [d1, d2, d3] => { results := [.lit (.bool false)], args := [d1, d2, d3] }
  | _ => none }
def TintTellsWrongFalsely : Prop := tintTellsRow.holds Try.pinned (OpenSpec.ofChange tintTellsWrong)

/-- 'mezzotintlaw.TintBacks': WHATEVER THE INPUT: true; the input reads as it did. -/
def tintBacksSpec : ChangeSpec := { name := "tintBacks", fn := fun _ => fun
  | [d1, d2, d3] => { results := [.lit (.bool true)], args := [d1, d2, d3] }
  | _ => none }
def tintBacksRow : OpenClaim := { program := "ytpkaimpidhcoiaa", sum := "6aa2f87ce8f04eff14d54f5df05cd3f2925e1f07e7a4e23a419ccb819ec5e935", func := "mezzotint/mezzotintlaw.TintBacks", spec := "tintBacks", recurses := true, apart := false }
def TintBacksSaid : Prop := tintBacksRow.holds Try.pinned (OpenSpec.ofChange tintBacksSpec)

/-- ITS FALSE NEIGHBOUR: 'it returns false'. Refute it at one input. -/
def tintBacksWrong : ChangeSpec := { name := "tintBacks", fn := fun _ => fun
  | [d1, d2, d3] => { results := [.lit (.bool false)], args := [d1, d2, d3] }
  | _ => none }
def TintBacksWrongFalsely : Prop := tintBacksRow.holds Try.pinned (OpenSpec.ofChange tintBacksWrong)

/-- 'mezzotintlaw.ZigTurns': WHATEVER THE INPUT: true; the input reads as it did. -/
def zigTurnsSpec : ChangeSpec := { name := "zigTurns", fn := fun _ => fun
  | [d] => { results := [.lit (.bool true)], args := [d] }
  | _ => none }
def zigTurnsRow : OpenClaim := { program := "ytpkaimpidhcoiaa", sum := "6aa2f87ce8f04eff14d54f5df05cd3f2925e1f07e7a4e23a419ccb819ec5e935", func := "mezzotint/mezzotintlaw.ZigTurns", spec := "zigTurns", apart := false }
def ZigTurnsSaid : Prop := zigTurnsRow.holds Try.pinned (OpenSpec.ofChange zigTurnsSpec)

/-- ITS FALSE NEIGHBOUR: 'it returns false'. Refute it at one input. -/
def zigTurnsWrong : ChangeSpec := { name := "zigTurns", fn := fun _ => fun
  | [d] => { results := [.lit (.bool false)], args := [d] }
  | _ => none }
def ZigTurnsWrongFalsely : Prop := zigTurnsRow.holds Try.pinned (OpenSpec.ofChange zigTurnsWrong)

/-- 'mezzotintlaw.WaveTo': WHATEVER THE INPUT: true; the input reads as it did. -/
def waveToSpec : ChangeSpec := { name := "waveTo", fn := fun _ => fun
  | [d] => { results := [.lit (.bool true)], args := [d] }
  | _ => none }
def waveToRow : OpenClaim := { program := "ytpkaimpidhcoiaa", sum := "6aa2f87ce8f04eff14d54f5df05cd3f2925e1f07e7a4e23a419ccb819ec5e935", func := "mezzotint/mezzotintlaw.WaveTo", spec := "waveTo", unfollowed := true, recurses := true, apart := false }
def WaveToSaid : Prop := waveToRow.holds Try.pinned (OpenSpec.ofChange waveToSpec)

/-- ITS FALSE NEIGHBOUR: 'it returns false'. Refute it at one input. -/
def waveToWrong : ChangeSpec := { name := "waveTo", fn := fun _ => fun
  | [d] => { results := [.lit (.bool false)], args := [d] }
  | _ => none }
def WaveToWrongFalsely : Prop := waveToRow.holds Try.pinned (OpenSpec.ofChange waveToWrong)

/-- 'mezzotintlaw.WaveFrom': WHATEVER THE INPUT: true; the input reads as it did. -/
def waveFromSpec : ChangeSpec := { name := "waveFrom", fn := fun _ => fun
  | [d] => { results := [.lit (.bool true)], args := [d] }
  | _ => none }
def waveFromRow : OpenClaim := { program := "ytpkaimpidhcoiaa", sum := "6aa2f87ce8f04eff14d54f5df05cd3f2925e1f07e7a4e23a419ccb819ec5e935", func := "mezzotint/mezzotintlaw.WaveFrom", spec := "waveFrom", unfollowed := true, recurses := true, apart := false }
def WaveFromSaid : Prop := waveFromRow.holds Try.pinned (OpenSpec.ofChange waveFromSpec)

/-- ITS FALSE NEIGHBOUR: 'it returns false'. Refute it at one input. -/
def waveFromWrong : ChangeSpec := { name := "waveFrom", fn := fun _ => fun
  | [d] => { results := [.lit (.bool false)], args := [d] }
  | _ => none }
def WaveFromWrongFalsely : Prop := waveFromRow.holds Try.pinned (OpenSpec.ofChange waveFromWrong)

/- THE SECOND FORM. 'bulk': how many values and letters a reading holds, each counted each time it is reached (what is shared counts as often as it is met; a slice's spare places count too). A statement '..UptoSaid' is the law's where the arguments, and the package variables that the reading takes, are together of bulk at most 1048576: NARROWER than '..Said'. Prove '..Said' where nothing that the law and all that it calls make is longer than what came in: it says more and counts as full. Else prove '..UptoSaid'. A law counts once. -/
mutual
def uptoBulk {H : Type} : DataW H → Nat
  | .lit (.string bytes) => bytes.length + 1
  | .lit _ => 1
  | .nil => 1
  | .ptr d => uptoBulk d + 1
  | .slice elems spare => uptoBulkAll elems + uptoBulkAll spare + 1
  | .agg parts => uptoBulkAll parts + 1
  | .iface _ d => uptoBulk d + 1
  | .map entries => uptoBulkEntries entries + 1
  | .held _ => 1
def uptoBulkAll {H : Type} : List (DataW H) → Nat
  | [] => 0
  | d :: r => uptoBulk d + uptoBulkAll r
def uptoBulkEntries {H : Type} : List (Lit × DataW H) → Nat
  | [] => 0
  | x :: r => uptoBulkEntry x + uptoBulkEntries r
def uptoBulkEntry {H : Type} : Lit × DataW H → Nat
  | (.string bytes, d) => bytes.length + uptoBulk d + 1
  | (_, d) => uptoBulk d + 1
 end
def uptoSmall : (H : Type) → List (DataW H) → Bool := fun _ ds => decide (uptoBulkAll ds ≤ 1048576)
def OpenSpec.upto (s : _root_.Go.ChangeSpec) : _root_.Go.OpenSpec := { _root_.Go.OpenSpec.ofChange s with cond := some uptoSmall }

/-- 'mezzotintlaw.TintTells', WHERE WHAT IT READS IS OF BULK AT MOST 1048576: true; the input reads as it did. -/
def tintTellsUptoRow : OpenClaim := { program := "ytpkaimpidhcoiaa", sum := "6aa2f87ce8f04eff14d54f5df05cd3f2925e1f07e7a4e23a419ccb819ec5e935", func := "mezzotint/mezzotintlaw.TintTells", spec := "tintTells", recurses := true, apart := false, narrowed := true }
def TintTellsUptoSaid : Prop := tintTellsUptoRow.holds Try.pinned (OpenSpec.upto tintTellsSpec)

/-- 'mezzotintlaw.TintBacks', WHERE WHAT IT READS IS OF BULK AT MOST 1048576: true; the input reads as it did. -/
def tintBacksUptoRow : OpenClaim := { program := "ytpkaimpidhcoiaa", sum := "6aa2f87ce8f04eff14d54f5df05cd3f2925e1f07e7a4e23a419ccb819ec5e935", func := "mezzotint/mezzotintlaw.TintBacks", spec := "tintBacks", recurses := true, apart := false, narrowed := true }
def TintBacksUptoSaid : Prop := tintBacksUptoRow.holds Try.pinned (OpenSpec.upto tintBacksSpec)

/-- 'mezzotintlaw.ZigTurns', WHERE WHAT IT READS IS OF BULK AT MOST 1048576: true; the input reads as it did. -/
def zigTurnsUptoRow : OpenClaim := { program := "ytpkaimpidhcoiaa", sum := "6aa2f87ce8f04eff14d54f5df05cd3f2925e1f07e7a4e23a419ccb819ec5e935", func := "mezzotint/mezzotintlaw.ZigTurns", spec := "zigTurns", apart := false, narrowed := true }
def ZigTurnsUptoSaid : Prop := zigTurnsUptoRow.holds Try.pinned (OpenSpec.upto zigTurnsSpec)

/-- 'mezzotintlaw.WaveTo', WHERE WHAT IT READS IS OF BULK AT MOST 1048576: true; the input reads as it did. -/
def waveToUptoRow : OpenClaim := { program := "ytpkaimpidhcoiaa", sum := "6aa2f87ce8f04eff14d54f5df05cd3f2925e1f07e7a4e23a419ccb819ec5e935", func := "mezzotint/mezzotintlaw.WaveTo", spec := "waveTo", unfollowed := true, recurses := true, apart := false, narrowed := true }
def WaveToUptoSaid : Prop := waveToUptoRow.holds Try.pinned (OpenSpec.upto waveToSpec)

/-- 'mezzotintlaw.WaveFrom', WHERE WHAT IT READS IS OF BULK AT MOST 1048576: true; the input reads as it did. -/
def waveFromUptoRow : OpenClaim := { program := "ytpkaimpidhcoiaa", sum := "6aa2f87ce8f04eff14d54f5df05cd3f2925e1f07e7a4e23a419ccb819ec5e935", func := "mezzotint/mezzotintlaw.WaveFrom", spec := "waveFrom", unfollowed := true, recurses := true, apart := false, narrowed := true }
def WaveFromUptoSaid : Prop := waveFromUptoRow.holds Try.pinned (OpenSpec.upto waveFromSpec)

end Rows
end Go.Proofs.Ytpkaimpidhcoiaa
