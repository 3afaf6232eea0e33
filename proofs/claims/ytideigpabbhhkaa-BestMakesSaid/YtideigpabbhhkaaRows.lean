/-
  No cell of these rows narrows 'for every input' (looked for: loops, veiled, ifaces, maps, wideKeys, modest, calm, conditions, laid).
  DERIVED. THE GIVEN ROWS OF THIS SEAT. 4 by the template 'for every input the law returns true; each argument reads behind the call as it read before'; 0 by the template 'total and deterministic' (their statements: YtideigpabbhhkaaTotals.lean).
  GIVEN WITH THE SEED: the statements are not yours to turn. If you find one false, say at which input.
  Laid BY PROGRAM, IN A SANDBOX (cutbox-rows.mjs): the forced cells as the released guide's own fill.sh prints them over the translation ee9977eb53122434… (all of the seat's roots in one cut). By AI agents, Wed Nov 11 2026. No macro, syntax, notation, axiom, sorry.
-/
import Derived.Test.YtideigpabbhhkaaChecked
import GoSem.Claim
import GoSem.ClaimJoined
import GoSem.ClaimMapViews
import Derived.JoinedTies
import Derived.KernelRfl
namespace Go.Proofs.Ytideigpabbhhkaa
/- THE CELL 'sum', in the pinned program and in every row, IS THE sha256 OF THE DUMP (.gsa) THAT YtideigpabbhhkaaProg.lean LOADS. Nothing in Lean hashes anything: it is a label: what it is worth is what the hold of that sum in a sandbox is worth. -/
noncomputable def Try.pinned : Pinned := { name := "ytideigpabbhhkaa", sum := "ee9977eb53122434bc03eab87e4282879d760f12f4bc49a2c79250f2d749b118", checked := Try.checked }
namespace Rows
def none {H : Type} : Left H := { results := [], args := [] }

/-- 'mezzotintlaw.TableChecks': WHATEVER THE INPUT: true; the input reads as it did. -/
def tableChecksSpec : ChangeSpec := { name := "tableChecks", fn := fun _ => fun
  | [d] => { results := [.lit (.bool true)], args := [d] }
  | _ => none }
def tableChecksRow : OpenClaim := { program := "ytideigpabbhhkaa", sum := "ee9977eb53122434bc03eab87e4282879d760f12f4bc49a2c79250f2d749b118", func := "mezzotint/mezzotintlaw.TableChecks", spec := "tableChecks", apart := false }
def TableChecksSaid : Prop := tableChecksRow.holds Try.pinned (OpenSpec.ofChange tableChecksSpec)

/-- ITS FALSE NEIGHBOUR: 'it returns false'. Refute it at one input. -/
def tableChecksWrong : ChangeSpec := { name := "tableChecks", fn := fun _ => fun
  | [d] => { results := [.lit (.bool false)], args := [d] }
  | _ => none }
def TableChecksWrongFalsely : Prop := tableChecksRow.holds Try.pinned (OpenSpec.ofChange tableChecksWrong)

/-- 'mezzotintlaw.TableWords': WHATEVER THE INPUT: true; the input reads as it did. -/
def tableWordsSpec : ChangeSpec := { name := "tableWords", fn := fun _ => fun
  | [d] => { results := [.lit (.bool true)], args := [d] }
  | _ => none }
def tableWordsRow : OpenClaim := { program := "ytideigpabbhhkaa", sum := "ee9977eb53122434bc03eab87e4282879d760f12f4bc49a2c79250f2d749b118", func := "mezzotint/mezzotintlaw.TableWords", spec := "tableWords", apart := false }
def TableWordsSaid : Prop := tableWordsRow.holds Try.pinned (OpenSpec.ofChange tableWordsSpec)

/-- ITS FALSE NEIGHBOUR: 'it returns false'. Refute it at one input. -/
def tableWordsWrong : ChangeSpec := { name := "tableWords", fn := fun _ => fun
  | [d] => { results := [.lit (.bool false)], args := [d] }
  | _ => none }
def TableWordsWrongFalsely : Prop := tableWordsRow.holds Try.pinned (OpenSpec.ofChange tableWordsWrong)

/-- 'mezzotintlaw.BestCosts': WHATEVER THE INPUT: true; the input reads as it did. -/
def bestCostsSpec : ChangeSpec := { name := "bestCosts", fn := fun _ => fun
  | [d1, d2] => { results := [.lit (.bool true)], args := [d1, d2] }
  | _ => none }
def bestCostsRow : OpenClaim := { program := "ytideigpabbhhkaa", sum := "ee9977eb53122434bc03eab87e4282879d760f12f4bc49a2c79250f2d749b118", func := "mezzotint/mezzotintlaw.BestCosts", spec := "bestCosts", unfollowed := true, recurses := true, apart := false }
def BestCostsSaid : Prop := bestCostsRow.holds Try.pinned (OpenSpec.ofChange bestCostsSpec)

/-- ITS FALSE NEIGHBOUR: 'it returns false'. Refute it at one input. -/
def bestCostsWrong : ChangeSpec := { name := "bestCosts", fn := fun _ => fun
  | [d1, d2] => { results := [.lit (.bool false)], args := [d1, d2] }
  | _ => none }
def BestCostsWrongFalsely : Prop := bestCostsRow.holds Try.pinned (OpenSpec.ofChange bestCostsWrong)

/-- 'mezzotintlaw.BestMakes': WHATEVER THE INPUT: true; the input reads as it did. -/
def bestMakesSpec : ChangeSpec := { name := "bestMakes", fn := fun _ => fun
  | [d] => { results := [.lit (.bool true)], args := [d] }
  | _ => none }
def bestMakesRow : OpenClaim := { program := "ytideigpabbhhkaa", sum := "ee9977eb53122434bc03eab87e4282879d760f12f4bc49a2c79250f2d749b118", func := "mezzotint/mezzotintlaw.BestMakes", spec := "bestMakes", unfollowed := true, recurses := true, apart := false }
def BestMakesSaid : Prop := bestMakesRow.holds Try.pinned (OpenSpec.ofChange bestMakesSpec)

/-- ITS FALSE NEIGHBOUR: 'it returns false'. Refute it at one input. -/
def bestMakesWrong : ChangeSpec := { name := "bestMakes", fn := fun _ => fun
  | [d] => { results := [.lit (.bool false)], args := [d] }
  | _ => none }
def BestMakesWrongFalsely : Prop := bestMakesRow.holds Try.pinned (OpenSpec.ofChange bestMakesWrong)

/- THE SECOND FORM. 'bulk': how many values and letters a reading holds, each counted each time it is reached (what is shared counts as often as it is met; a slice's spare places count too). A statement '..UptoSaid' is the law's where the arguments, and the package variables that the reading takes, are together of bulk at most 1048576: NARROWER than '..Said'. Prove '..Said' where nothing that the law and all that it calls make is longer than what came in: it says more and counts as full. Else prove '..UptoSaid'. A law counts once. -/
mutual
def uptoBulk {H : Type} : DataW H → Nat
  | .lit (.string bytes) => bytes.length + 1
  | .lit _ => 1
  | .nil => 1
  | .ptr d => uptoBulk d + 1
  | .slice elems spare => uptoBulkAll elems + uptoBulkAll spare + 1
  | .agg parts => uptoBulkAll parts + 1
  | .iface _ d => uptoBulk d + 1
  | .map entries => uptoBulkEntries entries + 1
  | .held _ => 1
def uptoBulkAll {H : Type} : List (DataW H) → Nat
  | [] => 0
  | d :: r => uptoBulk d + uptoBulkAll r
def uptoBulkEntries {H : Type} : List (Lit × DataW H) → Nat
  | [] => 0
  | x :: r => uptoBulkEntry x + uptoBulkEntries r
def uptoBulkEntry {H : Type} : Lit × DataW H → Nat
  | (.string bytes, d) => bytes.length + uptoBulk d + 1
  | (_, d) => uptoBulk d + 1
 end
def uptoSmall : (H : Type) → List (DataW H) → Bool := fun _ ds => decide (uptoBulkAll ds ≤ 1048576)
def OpenSpec.upto (s : _root_.Go.ChangeSpec) : _root_.Go.OpenSpec := { _root_.Go.OpenSpec.ofChange s with cond := some uptoSmall }

/-- 'mezzotintlaw.TableChecks', WHERE WHAT IT READS IS OF BULK AT MOST 1048576: true; the input reads as it did. -/
def tableChecksUptoRow : OpenClaim := { program := "ytideigpabbhhkaa", sum := "ee9977eb53122434bc03eab87e4282879d760f12f4bc49a2c79250f2d749b118", func := "mezzotint/mezzotintlaw.TableChecks", spec := "tableChecks", apart := false, narrowed := true }
def TableChecksUptoSaid : Prop := tableChecksUptoRow.holds Try.pinned (OpenSpec.upto tableChecksSpec)

/-- 'mezzotintlaw.TableWords', WHERE WHAT IT READS IS OF BULK AT MOST 1048576: true; the input reads as it did. -/
def tableWordsUptoRow : OpenClaim := { program := "ytideigpabbhhkaa", sum := "ee9977eb53122434bc03eab87e4282879d760f12f4bc49a2c79250f2d749b118", func := "mezzotint/mezzotintlaw.TableWords", spec := "tableWords", apart := false, narrowed := true }
def TableWordsUptoSaid : Prop := tableWordsUptoRow.holds Try.pinned (OpenSpec.upto tableWordsSpec)

/-- 'mezzotintlaw.BestCosts', WHERE WHAT IT READS IS OF BULK AT MOST 1048576: true; the input reads as it did. -/
def bestCostsUptoRow : OpenClaim := { program := "ytideigpabbhhkaa", sum := "ee9977eb53122434bc03eab87e4282879d760f12f4bc49a2c79250f2d749b118", func := "mezzotint/mezzotintlaw.BestCosts", spec := "bestCosts", unfollowed := true, recurses := true, apart := false, narrowed := true }
def BestCostsUptoSaid : Prop := bestCostsUptoRow.holds Try.pinned (OpenSpec.upto bestCostsSpec)

/-- 'mezzotintlaw.BestMakes', WHERE WHAT IT READS IS OF BULK AT MOST 1048576: true; the input reads as it did. -/
def bestMakesUptoRow : OpenClaim := { program := "ytideigpabbhhkaa", sum := "ee9977eb53122434bc03eab87e4282879d760f12f4bc49a2c79250f2d749b118", func := "mezzotint/mezzotintlaw.BestMakes", spec := "bestMakes", unfollowed := true, recurses := true, apart := false, narrowed := true }
def BestMakesUptoSaid : Prop := bestMakesUptoRow.holds Try.pinned (OpenSpec.upto bestMakesSpec)

end Rows
end Go.Proofs.Ytideigpabbhhkaa
