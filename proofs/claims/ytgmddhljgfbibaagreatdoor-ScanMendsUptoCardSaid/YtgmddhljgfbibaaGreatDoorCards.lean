/-
  DERIVED. GIVEN WITH THE SEED: THE CARDS: each row of YtgmddhljgfbibaaGreatDoorRows.lean that lists a variable, with what it lists TIED to the program's text (the seventh form; the later family's looks); each row that meets fmt, with fmt's text TOLD by the authors' own Lean function (tested against real Go, not proved from fmt's source: count such statements apart). THE CARD IS WHAT COUNTS. Prove the row's statement (the work); the ties are given (YtgmddhljgfbibaaGreatDoorTie.lean); close each card by the builder's one call (the guide's Derived/Test/ToyasCard.lean, 'card_holds'). Laid BY PROGRAM, IN A SANDBOX (cutbox-door.mjs). By AI agents, Wed Nov 11 2026. No macro, syntax, notation, axiom, sorry.
-/
import Derived.Test.YtgmddhljgfbibaaGreatDoorRows
import GoSem.ClaimSeven
namespace Go.Proofs.YtgmddhljgfbibaaGreatDoor
namespace Rows

/-- THE TIED CARD OF 'mezzotintlaw.ScanDecodes'. -/
def scanDecodesCard : Claim7 := { stood := { row := scanDecodesRow, standIns := [], harness := (true, "2f8d7651d7c0294ed4be8283b47ec68c8cacaea0fed429ff0904245f40652198"), looks := false }, kinds := [], alts := [], laidByText := true, laidKinds := [.data, .pinned], laidTests := true, laidLooks := .later }
def ScanDecodesCardSaid : Prop := Claim7.holds Tryz.pinned (.plain (OpenSpec.ofChange scanDecodesSpec)) scanDecodesCard

/-- THE TIED CARD OF 'mezzotintlaw.ScanMends'. -/
def scanMendsCard : Claim7 := { stood := { row := scanMendsRow, standIns := [], harness := (true, "2f8d7651d7c0294ed4be8283b47ec68c8cacaea0fed429ff0904245f40652198"), looks := false }, kinds := [], alts := [], laidByText := true, laidKinds := [.data, .pinned], laidTests := true, laidLooks := .later }
def ScanMendsCardSaid : Prop := Claim7.holds Tryz.pinned (.plain (OpenSpec.ofChange scanMendsSpec)) scanMendsCard

/-- THE SECOND FORM's CARD OF 'mezzotintlaw.ScanDecodes'. -/
def scanDecodesUptoCard : Claim7 := { stood := { row := scanDecodesUptoRow, standIns := [], harness := (true, "2f8d7651d7c0294ed4be8283b47ec68c8cacaea0fed429ff0904245f40652198"), looks := false }, kinds := [], alts := [], laidByText := true, laidKinds := [.data, .pinned], laidTests := true, laidLooks := .later }
def ScanDecodesUptoCardSaid : Prop := Claim7.holds Tryz.pinned (.plain (OpenSpec.upto scanDecodesSpec)) scanDecodesUptoCard

/-- THE SECOND FORM's CARD OF 'mezzotintlaw.ScanMends'. -/
def scanMendsUptoCard : Claim7 := { stood := { row := scanMendsUptoRow, standIns := [], harness := (true, "2f8d7651d7c0294ed4be8283b47ec68c8cacaea0fed429ff0904245f40652198"), looks := false }, kinds := [], alts := [], laidByText := true, laidKinds := [.data, .pinned], laidTests := true, laidLooks := .later }
def ScanMendsUptoCardSaid : Prop := Claim7.holds Tryz.pinned (.plain (OpenSpec.upto scanMendsSpec)) scanMendsUptoCard
end Rows
end Go.Proofs.YtgmddhljgfbibaaGreatDoor
