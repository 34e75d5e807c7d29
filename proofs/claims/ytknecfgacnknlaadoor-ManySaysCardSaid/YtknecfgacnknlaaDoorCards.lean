/-
  DERIVED. GIVEN WITH THE SEED: THE CARDS: each row of YtknecfgacnknlaaDoorRows.lean that lists a variable, with what it lists TIED to the program's text (the seventh form; the later family's looks); each row that meets fmt, with fmt's text TOLD by the authors' own Lean function (tested against real Go, not proved from fmt's source: count such statements apart). THE CARD IS WHAT COUNTS. Prove the row's statement (the work); the ties are given (YtknecfgacnknlaaDoorTie.lean); close each card by the builder's one call (the guide's Derived/Test/ToyasCard.lean, 'card_holds'). Laid BY PROGRAM, IN A SANDBOX (cutbox-door.mjs). By AI agents, Wed Nov 11 2026. No macro, syntax, notation, axiom, sorry.
-/
import Derived.Test.YtknecfgacnknlaaDoorRows
import GoSem.ClaimSeven
namespace Go.Proofs.YtknecfgacnknlaaDoor
namespace Rows

/-- THE TIED CARD OF 'letterbecklaw1.EdgesSays'. -/
def edgesSaysCard : Claim7 := { stood := { row := edgesSaysRow, standIns := [], harness := (true, "354223e2534fc7476076e4fc6ea66cd3f75e3c39d610728fcfded86b18e7a0c8"), looks := true }, kinds := [], alts := [], laidByText := true, laidKinds := [.handle], laidTests := true, laidLooks := .later }
def EdgesSaysCardSaid : Prop := Claim7.holds Tryd.pinned (.plain (OpenSpec.ofChange edgesSaysSpec)) edgesSaysCard

/-- THE TIED CARD OF 'letterbecklaw1.ZetaSays'. -/
def zetaSaysCard : Claim7 := { stood := { row := zetaSaysRow, standIns := [], harness := (true, "354223e2534fc7476076e4fc6ea66cd3f75e3c39d610728fcfded86b18e7a0c8"), looks := true }, kinds := [], alts := [], laidByText := true, laidKinds := [.handle], laidTests := true, laidLooks := .later }
def ZetaSaysCardSaid : Prop := Claim7.holds Tryd.pinned (.plain (OpenSpec.ofChange zetaSaysSpec)) zetaSaysCard

/-- THE TIED CARD OF 'letterbecklaw1.PeriodSays'. -/
def periodSaysCard : Claim7 := { stood := { row := periodSaysRow, standIns := [], harness := (true, "354223e2534fc7476076e4fc6ea66cd3f75e3c39d610728fcfded86b18e7a0c8"), looks := true }, kinds := [], alts := [], laidByText := true, laidKinds := [.handle], laidTests := true, laidLooks := .later }
def PeriodSaysCardSaid : Prop := Claim7.holds Tryd.pinned (.plain (OpenSpec.ofChange periodSaysSpec)) periodSaysCard

/-- THE TIED CARD OF 'letterbecklaw1.FindSays'. -/
def findSaysCard : Claim7 := { stood := { row := findSaysRow, standIns := [], harness := (true, "354223e2534fc7476076e4fc6ea66cd3f75e3c39d610728fcfded86b18e7a0c8"), looks := true }, kinds := [], alts := [], laidByText := true, laidKinds := [.handle], laidTests := true, laidLooks := .later }
def FindSaysCardSaid : Prop := Claim7.holds Tryd.pinned (.plain (OpenSpec.ofChange findSaysSpec)) findSaysCard

/-- THE TIED CARD OF 'letterbecklaw1.SkipSays'. -/
def skipSaysCard : Claim7 := { stood := { row := skipSaysRow, standIns := [], harness := (true, "354223e2534fc7476076e4fc6ea66cd3f75e3c39d610728fcfded86b18e7a0c8"), looks := true }, kinds := [], alts := [], laidByText := true, laidKinds := [.handle], laidTests := true, laidLooks := .later }
def SkipSaysCardSaid : Prop := Claim7.holds Tryd.pinned (.plain (OpenSpec.ofChange skipSaysSpec)) skipSaysCard

/-- THE TIED CARD OF 'letterbecklaw1.LyndonSays'. -/
def lyndonSaysCard : Claim7 := { stood := { row := lyndonSaysRow, standIns := [], harness := (true, "354223e2534fc7476076e4fc6ea66cd3f75e3c39d610728fcfded86b18e7a0c8"), looks := true }, kinds := [], alts := [], laidByText := true, laidKinds := [.handle], laidTests := true, laidLooks := .later }
def LyndonSaysCardSaid : Prop := Claim7.holds Tryd.pinned (.plain (OpenSpec.ofChange lyndonSaysSpec)) lyndonSaysCard

/-- THE TIED CARD OF 'letterbecklaw1.TurnSays'. -/
def turnSaysCard : Claim7 := { stood := { row := turnSaysRow, standIns := [], harness := (true, "354223e2534fc7476076e4fc6ea66cd3f75e3c39d610728fcfded86b18e7a0c8"), looks := true }, kinds := [], alts := [], laidByText := true, laidKinds := [.handle], laidTests := true, laidLooks := .later }
def TurnSaysCardSaid : Prop := Claim7.holds Tryd.pinned (.plain (OpenSpec.ofChange turnSaysSpec)) turnSaysCard

/-- THE TIED CARD OF 'letterbecklaw1.MirrorSays'. -/
def mirrorSaysCard : Claim7 := { stood := { row := mirrorSaysRow, standIns := [], harness := (true, "354223e2534fc7476076e4fc6ea66cd3f75e3c39d610728fcfded86b18e7a0c8"), looks := true }, kinds := [], alts := [], laidByText := true, laidKinds := [.handle], laidTests := true, laidLooks := .later }
def MirrorSaysCardSaid : Prop := Claim7.holds Tryd.pinned (.plain (OpenSpec.ofChange mirrorSaysSpec)) mirrorSaysCard

/-- THE TIED CARD OF 'letterbecklaw1.TrieSays'. -/
def trieSaysCard : Claim7 := { stood := { row := trieSaysRow, standIns := [], harness := (true, "354223e2534fc7476076e4fc6ea66cd3f75e3c39d610728fcfded86b18e7a0c8"), looks := true }, kinds := [], alts := [], laidByText := true, laidKinds := [.handle], laidTests := true, laidLooks := .later }
def TrieSaysCardSaid : Prop := Claim7.holds Tryd.pinned (.plain (OpenSpec.ofChange trieSaysSpec)) trieSaysCard

/-- THE TIED CARD OF 'letterbecklaw1.ManySays'. -/
def manySaysCard : Claim7 := { stood := { row := manySaysRow, standIns := [], harness := (true, "354223e2534fc7476076e4fc6ea66cd3f75e3c39d610728fcfded86b18e7a0c8"), looks := true }, kinds := [], alts := [], laidByText := true, laidKinds := [.handle], laidTests := true, laidLooks := .later }
def ManySaysCardSaid : Prop := Claim7.holds Tryd.pinned (.plain (OpenSpec.ofChange manySaysSpec)) manySaysCard

/-- THE SECOND FORM's CARD OF 'letterbecklaw1.EdgesSays'. -/
def edgesSaysUptoCard : Claim7 := { stood := { row := edgesSaysUptoRow, standIns := [], harness := (true, "354223e2534fc7476076e4fc6ea66cd3f75e3c39d610728fcfded86b18e7a0c8"), looks := true }, kinds := [], alts := [], laidByText := true, laidKinds := [.handle], laidTests := true, laidLooks := .later }
def EdgesSaysUptoCardSaid : Prop := Claim7.holds Tryd.pinned (.plain (OpenSpec.upto edgesSaysSpec)) edgesSaysUptoCard

/-- THE SECOND FORM's CARD OF 'letterbecklaw1.ZetaSays'. -/
def zetaSaysUptoCard : Claim7 := { stood := { row := zetaSaysUptoRow, standIns := [], harness := (true, "354223e2534fc7476076e4fc6ea66cd3f75e3c39d610728fcfded86b18e7a0c8"), looks := true }, kinds := [], alts := [], laidByText := true, laidKinds := [.handle], laidTests := true, laidLooks := .later }
def ZetaSaysUptoCardSaid : Prop := Claim7.holds Tryd.pinned (.plain (OpenSpec.upto zetaSaysSpec)) zetaSaysUptoCard

/-- THE SECOND FORM's CARD OF 'letterbecklaw1.PeriodSays'. -/
def periodSaysUptoCard : Claim7 := { stood := { row := periodSaysUptoRow, standIns := [], harness := (true, "354223e2534fc7476076e4fc6ea66cd3f75e3c39d610728fcfded86b18e7a0c8"), looks := true }, kinds := [], alts := [], laidByText := true, laidKinds := [.handle], laidTests := true, laidLooks := .later }
def PeriodSaysUptoCardSaid : Prop := Claim7.holds Tryd.pinned (.plain (OpenSpec.upto periodSaysSpec)) periodSaysUptoCard

/-- THE SECOND FORM's CARD OF 'letterbecklaw1.FindSays'. -/
def findSaysUptoCard : Claim7 := { stood := { row := findSaysUptoRow, standIns := [], harness := (true, "354223e2534fc7476076e4fc6ea66cd3f75e3c39d610728fcfded86b18e7a0c8"), looks := true }, kinds := [], alts := [], laidByText := true, laidKinds := [.handle], laidTests := true, laidLooks := .later }
def FindSaysUptoCardSaid : Prop := Claim7.holds Tryd.pinned (.plain (OpenSpec.upto findSaysSpec)) findSaysUptoCard

/-- THE SECOND FORM's CARD OF 'letterbecklaw1.SkipSays'. -/
def skipSaysUptoCard : Claim7 := { stood := { row := skipSaysUptoRow, standIns := [], harness := (true, "354223e2534fc7476076e4fc6ea66cd3f75e3c39d610728fcfded86b18e7a0c8"), looks := true }, kinds := [], alts := [], laidByText := true, laidKinds := [.handle], laidTests := true, laidLooks := .later }
def SkipSaysUptoCardSaid : Prop := Claim7.holds Tryd.pinned (.plain (OpenSpec.upto skipSaysSpec)) skipSaysUptoCard

/-- THE SECOND FORM's CARD OF 'letterbecklaw1.LyndonSays'. -/
def lyndonSaysUptoCard : Claim7 := { stood := { row := lyndonSaysUptoRow, standIns := [], harness := (true, "354223e2534fc7476076e4fc6ea66cd3f75e3c39d610728fcfded86b18e7a0c8"), looks := true }, kinds := [], alts := [], laidByText := true, laidKinds := [.handle], laidTests := true, laidLooks := .later }
def LyndonSaysUptoCardSaid : Prop := Claim7.holds Tryd.pinned (.plain (OpenSpec.upto lyndonSaysSpec)) lyndonSaysUptoCard

/-- THE SECOND FORM's CARD OF 'letterbecklaw1.TurnSays'. -/
def turnSaysUptoCard : Claim7 := { stood := { row := turnSaysUptoRow, standIns := [], harness := (true, "354223e2534fc7476076e4fc6ea66cd3f75e3c39d610728fcfded86b18e7a0c8"), looks := true }, kinds := [], alts := [], laidByText := true, laidKinds := [.handle], laidTests := true, laidLooks := .later }
def TurnSaysUptoCardSaid : Prop := Claim7.holds Tryd.pinned (.plain (OpenSpec.upto turnSaysSpec)) turnSaysUptoCard

/-- THE SECOND FORM's CARD OF 'letterbecklaw1.MirrorSays'. -/
def mirrorSaysUptoCard : Claim7 := { stood := { row := mirrorSaysUptoRow, standIns := [], harness := (true, "354223e2534fc7476076e4fc6ea66cd3f75e3c39d610728fcfded86b18e7a0c8"), looks := true }, kinds := [], alts := [], laidByText := true, laidKinds := [.handle], laidTests := true, laidLooks := .later }
def MirrorSaysUptoCardSaid : Prop := Claim7.holds Tryd.pinned (.plain (OpenSpec.upto mirrorSaysSpec)) mirrorSaysUptoCard

/-- THE SECOND FORM's CARD OF 'letterbecklaw1.TrieSays'. -/
def trieSaysUptoCard : Claim7 := { stood := { row := trieSaysUptoRow, standIns := [], harness := (true, "354223e2534fc7476076e4fc6ea66cd3f75e3c39d610728fcfded86b18e7a0c8"), looks := true }, kinds := [], alts := [], laidByText := true, laidKinds := [.handle], laidTests := true, laidLooks := .later }
def TrieSaysUptoCardSaid : Prop := Claim7.holds Tryd.pinned (.plain (OpenSpec.upto trieSaysSpec)) trieSaysUptoCard

/-- THE SECOND FORM's CARD OF 'letterbecklaw1.ManySays'. -/
def manySaysUptoCard : Claim7 := { stood := { row := manySaysUptoRow, standIns := [], harness := (true, "354223e2534fc7476076e4fc6ea66cd3f75e3c39d610728fcfded86b18e7a0c8"), looks := true }, kinds := [], alts := [], laidByText := true, laidKinds := [.handle], laidTests := true, laidLooks := .later }
def ManySaysUptoCardSaid : Prop := Claim7.holds Tryd.pinned (.plain (OpenSpec.upto manySaysSpec)) manySaysUptoCard
end Rows
end Go.Proofs.YtknecfgacnknlaaDoor
