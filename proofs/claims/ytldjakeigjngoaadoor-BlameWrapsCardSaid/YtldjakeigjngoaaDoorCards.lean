/-
  DERIVED. GIVEN WITH THE SEED: THE CARDS: each row of YtldjakeigjngoaaDoorRows.lean that lists a variable, with what it lists TIED to the program's text (the seventh form; the later family's looks); each row that meets fmt, with fmt's text TOLD by the authors' own Lean function (tested against real Go, not proved from fmt's source: count such statements apart). THE CARD IS WHAT COUNTS. Prove the row's statement (the work); the ties are given (YtldjakeigjngoaaDoorTie.lean); close each card by the builder's one call (the guide's Derived/Test/ToyasCard.lean, 'card_holds'). Laid BY PROGRAM, IN A SANDBOX (cutbox-door.mjs). By AI agents, Wed Nov 11 2026. No macro, syntax, notation, axiom, sorry.
-/
import Derived.Test.YtldjakeigjngoaaDoorRows
import GoSem.ClaimSeven
namespace Go.Proofs.YtldjakeigjngoaaDoor
namespace Rows

/-- THE TIED CARD OF 'blindfoldlaw37.BlameErrors'. -/
def blameErrorsCard : Claim7 := { stood := { row := blameErrorsRow, standIns := [], harness := (true, "fa5df2c64761afd249fc67e4287d9dcf61f7c4adb213029b75129b2de027e4e5"), looks := true }, kinds := [], alts := [], laidByText := true, laidKinds := [.handle], laidTests := true, laidLooks := .later }
def BlameErrorsCardSaid : Prop := Claim7.holds Tryd.pinned (.plain (OpenSpec.ofChange blameErrorsSpec)) blameErrorsCard

/-- THE TIED CARD OF 'blindfoldlaw37.BlameWraps'. -/
def blameWrapsCard : Claim7 := { stood := { row := blameWrapsRow, standIns := [], harness := (true, "fa5df2c64761afd249fc67e4287d9dcf61f7c4adb213029b75129b2de027e4e5"), looks := true }, kinds := [], alts := [], laidByText := true, laidKinds := [.handle], laidTests := true, laidLooks := .later }
def BlameWrapsCardSaid : Prop := Claim7.holds Tryd.pinned (.plain (OpenSpec.ofChange blameWrapsSpec)) blameWrapsCard

/-- THE TIED CARD OF 'blindfoldlaw04.CellsWidths'. -/
def cellsWidthsCard : Claim7 := { stood := { row := cellsWidthsRow, standIns := [], harness := (true, "fa5df2c64761afd249fc67e4287d9dcf61f7c4adb213029b75129b2de027e4e5"), looks := true }, kinds := [], alts := [], laidByText := true, laidKinds := [.data, .pinned], laidTests := true, laidLooks := .later }
def CellsWidthsCardSaid : Prop := Claim7.holds Tryd.pinned (.plain (OpenSpec.ofChange cellsWidthsSpec)) cellsWidthsCard

/-- THE SECOND FORM's CARD OF 'blindfoldlaw37.BlameErrors'. -/
def blameErrorsUptoCard : Claim7 := { stood := { row := blameErrorsUptoRow, standIns := [], harness := (true, "fa5df2c64761afd249fc67e4287d9dcf61f7c4adb213029b75129b2de027e4e5"), looks := true }, kinds := [], alts := [], laidByText := true, laidKinds := [.handle], laidTests := true, laidLooks := .later }
def BlameErrorsUptoCardSaid : Prop := Claim7.holds Tryd.pinned (.plain (OpenSpec.upto blameErrorsSpec)) blameErrorsUptoCard

/-- THE SECOND FORM's CARD OF 'blindfoldlaw37.BlameWraps'. -/
def blameWrapsUptoCard : Claim7 := { stood := { row := blameWrapsUptoRow, standIns := [], harness := (true, "fa5df2c64761afd249fc67e4287d9dcf61f7c4adb213029b75129b2de027e4e5"), looks := true }, kinds := [], alts := [], laidByText := true, laidKinds := [.handle], laidTests := true, laidLooks := .later }
def BlameWrapsUptoCardSaid : Prop := Claim7.holds Tryd.pinned (.plain (OpenSpec.upto blameWrapsSpec)) blameWrapsUptoCard

/-- THE SECOND FORM's CARD OF 'blindfoldlaw04.CellsWidths'. -/
def cellsWidthsUptoCard : Claim7 := { stood := { row := cellsWidthsUptoRow, standIns := [], harness := (true, "fa5df2c64761afd249fc67e4287d9dcf61f7c4adb213029b75129b2de027e4e5"), looks := true }, kinds := [], alts := [], laidByText := true, laidKinds := [.data, .pinned], laidTests := true, laidLooks := .later }
def CellsWidthsUptoCardSaid : Prop := Claim7.holds Tryd.pinned (.plain (OpenSpec.upto cellsWidthsSpec)) cellsWidthsUptoCard
end Rows
end Go.Proofs.YtldjakeigjngoaaDoor
