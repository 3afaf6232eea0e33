/-
  DERIVED. GIVEN WITH THE SEED: THE CARDS: each row of YtgmddhljgfbibaaDoorRows.lean that lists a variable, with what it lists TIED to the program's text (the seventh form; the later family's looks); each row that meets fmt, with fmt's text TOLD by the authors' own Lean function (tested against real Go, not proved from fmt's source: count such statements apart). THE CARD IS WHAT COUNTS. Prove the row's statement (the work); the ties are given (YtgmddhljgfbibaaDoorTie.lean); close each card by the builder's one call (the guide's Derived/Test/ToyasCard.lean, 'card_holds'). Laid BY PROGRAM, IN A SANDBOX (cutbox-door.mjs). By AI agents, Wed Nov 11 2026. No macro, syntax, notation, axiom, sorry.
-/
import Derived.Test.YtgmddhljgfbibaaDoorRows
import GoSem.ClaimSeven
namespace Go.Proofs.YtgmddhljgfbibaaDoor
namespace Rows

/-- THE TIED CARD OF 'mezzotintlaw.StuffTells'. -/
def stuffTellsCard : Claim7 := { stood := { row := stuffTellsRow, standIns := [], harness := (true, "d48eeaec799887fb8293ebbf64f2877ca4eef7b758a21a21c1b5c998f6c46b2d"), looks := false }, kinds := [], alts := [], laidByText := true, laidKinds := [.data, .pinned], laidTests := true, laidLooks := .later }
def StuffTellsCardSaid : Prop := Claim7.holds Tryd.pinned (.plain (OpenSpec.ofChange stuffTellsSpec)) stuffTellsCard

/-- THE TIED CARD OF 'mezzotintlaw.SegEncodes'. -/
def segEncodesCard : Claim7 := { stood := { row := segEncodesRow, standIns := [], harness := (true, "d48eeaec799887fb8293ebbf64f2877ca4eef7b758a21a21c1b5c998f6c46b2d"), looks := false }, kinds := [], alts := [], laidByText := true, laidKinds := [.data, .pinned], laidTests := true, laidLooks := .later }
def SegEncodesCardSaid : Prop := Claim7.holds Tryd.pinned (.plain (OpenSpec.ofChange segEncodesSpec)) segEncodesCard

/-- THE TIED CARD OF 'mezzotintlaw.SegDecodes'. -/
def segDecodesCard : Claim7 := { stood := { row := segDecodesRow, standIns := [], harness := (true, "d48eeaec799887fb8293ebbf64f2877ca4eef7b758a21a21c1b5c998f6c46b2d"), looks := false }, kinds := [], alts := [], laidByText := true, laidKinds := [.data, .pinned], laidTests := true, laidLooks := .later }
def SegDecodesCardSaid : Prop := Claim7.holds Tryd.pinned (.plain (OpenSpec.ofChange segDecodesSpec)) segDecodesCard

/-- THE TIED CARD OF 'mezzotintlaw.ScanEncodes'. -/
def scanEncodesCard : Claim7 := { stood := { row := scanEncodesRow, standIns := [], harness := (true, "d48eeaec799887fb8293ebbf64f2877ca4eef7b758a21a21c1b5c998f6c46b2d"), looks := false }, kinds := [], alts := [], laidByText := true, laidKinds := [.data, .pinned], laidTests := true, laidLooks := .later }
def ScanEncodesCardSaid : Prop := Claim7.holds Tryd.pinned (.plain (OpenSpec.ofChange scanEncodesSpec)) scanEncodesCard

/-- THE SECOND FORM's CARD OF 'mezzotintlaw.StuffTells'. -/
def stuffTellsUptoCard : Claim7 := { stood := { row := stuffTellsUptoRow, standIns := [], harness := (true, "d48eeaec799887fb8293ebbf64f2877ca4eef7b758a21a21c1b5c998f6c46b2d"), looks := false }, kinds := [], alts := [], laidByText := true, laidKinds := [.data, .pinned], laidTests := true, laidLooks := .later }
def StuffTellsUptoCardSaid : Prop := Claim7.holds Tryd.pinned (.plain (OpenSpec.upto stuffTellsSpec)) stuffTellsUptoCard

/-- THE SECOND FORM's CARD OF 'mezzotintlaw.SegEncodes'. -/
def segEncodesUptoCard : Claim7 := { stood := { row := segEncodesUptoRow, standIns := [], harness := (true, "d48eeaec799887fb8293ebbf64f2877ca4eef7b758a21a21c1b5c998f6c46b2d"), looks := false }, kinds := [], alts := [], laidByText := true, laidKinds := [.data, .pinned], laidTests := true, laidLooks := .later }
def SegEncodesUptoCardSaid : Prop := Claim7.holds Tryd.pinned (.plain (OpenSpec.upto segEncodesSpec)) segEncodesUptoCard

/-- THE SECOND FORM's CARD OF 'mezzotintlaw.SegDecodes'. -/
def segDecodesUptoCard : Claim7 := { stood := { row := segDecodesUptoRow, standIns := [], harness := (true, "d48eeaec799887fb8293ebbf64f2877ca4eef7b758a21a21c1b5c998f6c46b2d"), looks := false }, kinds := [], alts := [], laidByText := true, laidKinds := [.data, .pinned], laidTests := true, laidLooks := .later }
def SegDecodesUptoCardSaid : Prop := Claim7.holds Tryd.pinned (.plain (OpenSpec.upto segDecodesSpec)) segDecodesUptoCard

/-- THE SECOND FORM's CARD OF 'mezzotintlaw.ScanEncodes'. -/
def scanEncodesUptoCard : Claim7 := { stood := { row := scanEncodesUptoRow, standIns := [], harness := (true, "d48eeaec799887fb8293ebbf64f2877ca4eef7b758a21a21c1b5c998f6c46b2d"), looks := false }, kinds := [], alts := [], laidByText := true, laidKinds := [.data, .pinned], laidTests := true, laidLooks := .later }
def ScanEncodesUptoCardSaid : Prop := Claim7.holds Tryd.pinned (.plain (OpenSpec.upto scanEncodesSpec)) scanEncodesUptoCard
end Rows
end Go.Proofs.YtgmddhljgfbibaaDoor
