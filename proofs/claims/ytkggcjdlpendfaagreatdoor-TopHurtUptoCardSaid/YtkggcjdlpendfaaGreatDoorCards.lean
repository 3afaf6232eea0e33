/-
  DERIVED. GIVEN WITH THE SEED: THE CARDS: each row of YtkggcjdlpendfaaGreatDoorRows.lean that lists a variable, with what it lists TIED to the program's text (the seventh form; the later family's looks); each row that meets fmt, with fmt's text TOLD by the authors' own Lean function (tested against real Go, not proved from fmt's source: count such statements apart). THE CARD IS WHAT COUNTS. Prove the row's statement (the work); the ties are given (YtkggcjdlpendfaaGreatDoorTie.lean); close each card by the builder's one call (the guide's Derived/Test/ToyasCard.lean, 'card_holds'). Laid BY PROGRAM, IN A SANDBOX (cutbox-door.mjs). By AI agents, Wed Nov 11 2026. No macro, syntax, notation, axiom, sorry.
-/
import Derived.Test.YtkggcjdlpendfaaGreatDoorRows
import GoSem.ClaimSeven
namespace Go.Proofs.YtkggcjdlpendfaaGreatDoor
namespace Rows

/-- THE TIED CARD OF 'mezzotinttop.TopCoarse'. -/
def topCoarseCard : Claim7 := { stood := { row := topCoarseRow, standIns := [], harness := (true, "0eedec80ccbcbe44413eb44fe9e4432af661daecfe263eb0831418267ece09b6"), looks := false }, kinds := [], alts := [], laidByText := true, laidKinds := [.data, .pinned], laidTests := true, laidLooks := .later }
def TopCoarseCardSaid : Prop := Claim7.holds Tryz.pinned (.plain (OpenSpec.ofChange topCoarseSpec)) topCoarseCard

/-- THE TIED CARD OF 'mezzotinttop.TopAcross'. -/
def topAcrossCard : Claim7 := { stood := { row := topAcrossRow, standIns := [], harness := (true, "0eedec80ccbcbe44413eb44fe9e4432af661daecfe263eb0831418267ece09b6"), looks := false }, kinds := [], alts := [], laidByText := true, laidKinds := [.data, .pinned], laidTests := true, laidLooks := .later }
def TopAcrossCardSaid : Prop := Claim7.holds Tryz.pinned (.plain (OpenSpec.ofChange topAcrossSpec)) topAcrossCard

/-- THE TIED CARD OF 'mezzotinttop.TopFewest'. -/
def topFewestCard : Claim7 := { stood := { row := topFewestRow, standIns := [], harness := (true, "0eedec80ccbcbe44413eb44fe9e4432af661daecfe263eb0831418267ece09b6"), looks := false }, kinds := [], alts := [], laidByText := true, laidKinds := [.data, .pinned], laidTests := true, laidLooks := .later }
def TopFewestCardSaid : Prop := Claim7.holds Tryz.pinned (.plain (OpenSpec.ofChange topFewestSpec)) topFewestCard

/-- THE TIED CARD OF 'mezzotintlaw.RescueHurts'. -/
def rescueHurtsCard : Claim7 := { stood := { row := rescueHurtsRow, standIns := [], harness := (true, "0eedec80ccbcbe44413eb44fe9e4432af661daecfe263eb0831418267ece09b6"), looks := false }, kinds := [], alts := [], laidByText := true, laidKinds := [.data, .pinned], laidTests := true, laidLooks := .later }
def RescueHurtsCardSaid : Prop := Claim7.holds Tryz.pinned (.plain (OpenSpec.ofChange rescueHurtsSpec)) rescueHurtsCard

/-- THE TIED CARD OF 'mezzotintlaw.RescueDecodes'. -/
def rescueDecodesCard : Claim7 := { stood := { row := rescueDecodesRow, standIns := [], harness := (true, "0eedec80ccbcbe44413eb44fe9e4432af661daecfe263eb0831418267ece09b6"), looks := false }, kinds := [], alts := [], laidByText := true, laidKinds := [.data, .pinned], laidTests := true, laidLooks := .later }
def RescueDecodesCardSaid : Prop := Claim7.holds Tryz.pinned (.plain (OpenSpec.ofChange rescueDecodesSpec)) rescueDecodesCard

/-- THE TIED CARD OF 'mezzotintlaw.FrameDecodes'. -/
def frameDecodesCard : Claim7 := { stood := { row := frameDecodesRow, standIns := [], harness := (true, "0eedec80ccbcbe44413eb44fe9e4432af661daecfe263eb0831418267ece09b6"), looks := false }, kinds := [], alts := [], laidByText := true, laidKinds := [.data, .pinned], laidTests := true, laidLooks := .later }
def FrameDecodesCardSaid : Prop := Claim7.holds Tryz.pinned (.plain (OpenSpec.ofChange frameDecodesSpec)) frameDecodesCard

/-- THE TIED CARD OF 'mezzotintlaw.FrameEncodes'. -/
def frameEncodesCard : Claim7 := { stood := { row := frameEncodesRow, standIns := [], harness := (true, "0eedec80ccbcbe44413eb44fe9e4432af661daecfe263eb0831418267ece09b6"), looks := false }, kinds := [], alts := [], laidByText := true, laidKinds := [.data, .pinned], laidTests := true, laidLooks := .later }
def FrameEncodesCardSaid : Prop := Claim7.holds Tryz.pinned (.plain (OpenSpec.ofChange frameEncodesSpec)) frameEncodesCard

/-- THE TIED CARD OF 'mezzotinttop.TopHurt'. -/
def topHurtCard : Claim7 := { stood := { row := topHurtRow, standIns := [], harness := (true, "0eedec80ccbcbe44413eb44fe9e4432af661daecfe263eb0831418267ece09b6"), looks := false }, kinds := [], alts := [], laidByText := true, laidKinds := [.data, .pinned], laidTests := true, laidLooks := .later }
def TopHurtCardSaid : Prop := Claim7.holds Tryz.pinned (.plain (OpenSpec.ofChange topHurtSpec)) topHurtCard

/-- THE SECOND FORM's CARD OF 'mezzotinttop.TopCoarse'. -/
def topCoarseUptoCard : Claim7 := { stood := { row := topCoarseUptoRow, standIns := [], harness := (true, "0eedec80ccbcbe44413eb44fe9e4432af661daecfe263eb0831418267ece09b6"), looks := false }, kinds := [], alts := [], laidByText := true, laidKinds := [.data, .pinned], laidTests := true, laidLooks := .later }
def TopCoarseUptoCardSaid : Prop := Claim7.holds Tryz.pinned (.plain (OpenSpec.upto topCoarseSpec)) topCoarseUptoCard

/-- THE SECOND FORM's CARD OF 'mezzotinttop.TopAcross'. -/
def topAcrossUptoCard : Claim7 := { stood := { row := topAcrossUptoRow, standIns := [], harness := (true, "0eedec80ccbcbe44413eb44fe9e4432af661daecfe263eb0831418267ece09b6"), looks := false }, kinds := [], alts := [], laidByText := true, laidKinds := [.data, .pinned], laidTests := true, laidLooks := .later }
def TopAcrossUptoCardSaid : Prop := Claim7.holds Tryz.pinned (.plain (OpenSpec.upto topAcrossSpec)) topAcrossUptoCard

/-- THE SECOND FORM's CARD OF 'mezzotinttop.TopFewest'. -/
def topFewestUptoCard : Claim7 := { stood := { row := topFewestUptoRow, standIns := [], harness := (true, "0eedec80ccbcbe44413eb44fe9e4432af661daecfe263eb0831418267ece09b6"), looks := false }, kinds := [], alts := [], laidByText := true, laidKinds := [.data, .pinned], laidTests := true, laidLooks := .later }
def TopFewestUptoCardSaid : Prop := Claim7.holds Tryz.pinned (.plain (OpenSpec.upto topFewestSpec)) topFewestUptoCard

/-- THE SECOND FORM's CARD OF 'mezzotintlaw.RescueHurts'. -/
def rescueHurtsUptoCard : Claim7 := { stood := { row := rescueHurtsUptoRow, standIns := [], harness := (true, "0eedec80ccbcbe44413eb44fe9e4432af661daecfe263eb0831418267ece09b6"), looks := false }, kinds := [], alts := [], laidByText := true, laidKinds := [.data, .pinned], laidTests := true, laidLooks := .later }
def RescueHurtsUptoCardSaid : Prop := Claim7.holds Tryz.pinned (.plain (OpenSpec.upto rescueHurtsSpec)) rescueHurtsUptoCard

/-- THE SECOND FORM's CARD OF 'mezzotintlaw.RescueDecodes'. -/
def rescueDecodesUptoCard : Claim7 := { stood := { row := rescueDecodesUptoRow, standIns := [], harness := (true, "0eedec80ccbcbe44413eb44fe9e4432af661daecfe263eb0831418267ece09b6"), looks := false }, kinds := [], alts := [], laidByText := true, laidKinds := [.data, .pinned], laidTests := true, laidLooks := .later }
def RescueDecodesUptoCardSaid : Prop := Claim7.holds Tryz.pinned (.plain (OpenSpec.upto rescueDecodesSpec)) rescueDecodesUptoCard

/-- THE SECOND FORM's CARD OF 'mezzotintlaw.FrameDecodes'. -/
def frameDecodesUptoCard : Claim7 := { stood := { row := frameDecodesUptoRow, standIns := [], harness := (true, "0eedec80ccbcbe44413eb44fe9e4432af661daecfe263eb0831418267ece09b6"), looks := false }, kinds := [], alts := [], laidByText := true, laidKinds := [.data, .pinned], laidTests := true, laidLooks := .later }
def FrameDecodesUptoCardSaid : Prop := Claim7.holds Tryz.pinned (.plain (OpenSpec.upto frameDecodesSpec)) frameDecodesUptoCard

/-- THE SECOND FORM's CARD OF 'mezzotintlaw.FrameEncodes'. -/
def frameEncodesUptoCard : Claim7 := { stood := { row := frameEncodesUptoRow, standIns := [], harness := (true, "0eedec80ccbcbe44413eb44fe9e4432af661daecfe263eb0831418267ece09b6"), looks := false }, kinds := [], alts := [], laidByText := true, laidKinds := [.data, .pinned], laidTests := true, laidLooks := .later }
def FrameEncodesUptoCardSaid : Prop := Claim7.holds Tryz.pinned (.plain (OpenSpec.upto frameEncodesSpec)) frameEncodesUptoCard

/-- THE SECOND FORM's CARD OF 'mezzotinttop.TopHurt'. -/
def topHurtUptoCard : Claim7 := { stood := { row := topHurtUptoRow, standIns := [], harness := (true, "0eedec80ccbcbe44413eb44fe9e4432af661daecfe263eb0831418267ece09b6"), looks := false }, kinds := [], alts := [], laidByText := true, laidKinds := [.data, .pinned], laidTests := true, laidLooks := .later }
def TopHurtUptoCardSaid : Prop := Claim7.holds Tryz.pinned (.plain (OpenSpec.upto topHurtSpec)) topHurtUptoCard
end Rows
end Go.Proofs.YtkggcjdlpendfaaGreatDoor
