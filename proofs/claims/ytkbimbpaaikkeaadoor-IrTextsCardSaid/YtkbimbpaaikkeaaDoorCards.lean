/-
  DERIVED. GIVEN WITH THE SEED: THE CARDS: each row of YtkbimbpaaikkeaaDoorRows.lean that lists a variable, with what it lists TIED to the program's text (the seventh form; the later family's looks); each row that meets fmt, with fmt's text TOLD by the authors' own Lean function (tested against real Go, not proved from fmt's source: count such statements apart). THE CARD IS WHAT COUNTS. Prove the row's statement (the work); the ties are given (YtkbimbpaaikkeaaDoorTie.lean); close each card by the builder's one call (the guide's Derived/Test/ToyasCard.lean, 'card_holds'). Laid BY PROGRAM, IN A SANDBOX (cutbox-door.mjs). By AI agents, Wed Nov 11 2026. No macro, syntax, notation, axiom, sorry.
-/
import Derived.Test.YtkbimbpaaikkeaaDoorRows
import GoSem.ClaimSeven
namespace Go.Proofs.YtkbimbpaaikkeaaDoor
namespace Rows

/-- THE TIED CARD OF 'rushlightlaw13.IrChecks'. -/
def irChecksCard : Claim7 := { stood := { row := irChecksRow, standIns := [], harness := (true, "f2012ffc3caabe1dea4c6c4ce304f8fc9516f07ad0e7b25c49bb110ab1326584"), looks := false }, kinds := [], alts := [], laidByText := true, laidKinds := [.data, .data, .data], laidTests := true, laidLooks := .later }
def IrChecksCardSaid : Prop := Claim7.holds Tryd.pinned (.plain (OpenSpec.ofChange irChecksSpec)) irChecksCard

/-- THE TIED CARD OF 'rushlightlaw13.IrTexts'. -/
def irTextsCard : Claim7 := { stood := { row := irTextsRow, standIns := [], harness := (true, "f2012ffc3caabe1dea4c6c4ce304f8fc9516f07ad0e7b25c49bb110ab1326584"), looks := false }, kinds := [], alts := [], laidByText := true, laidKinds := [.data, .data, .data], laidTests := true, laidLooks := .later }
def IrTextsCardSaid : Prop := Claim7.holds Tryd.pinned (.plain (OpenSpec.ofChange irTextsSpec)) irTextsCard

/-- THE TIED CARD OF 'rushlightlaw13.IrTells'. -/
def irTellsCard : Claim7 := { stood := { row := irTellsRow, standIns := [], harness := (true, "f2012ffc3caabe1dea4c6c4ce304f8fc9516f07ad0e7b25c49bb110ab1326584"), looks := false }, kinds := [], alts := [], laidByText := true, laidKinds := [.data, .data, .data], laidTests := true, laidLooks := .later }
def IrTellsCardSaid : Prop := Claim7.holds Tryd.pinned (.plain (OpenSpec.ofChange irTellsSpec)) irTellsCard

/-- THE SECOND FORM's CARD OF 'rushlightlaw13.IrChecks'. -/
def irChecksUptoCard : Claim7 := { stood := { row := irChecksUptoRow, standIns := [], harness := (true, "f2012ffc3caabe1dea4c6c4ce304f8fc9516f07ad0e7b25c49bb110ab1326584"), looks := false }, kinds := [], alts := [], laidByText := true, laidKinds := [.data, .data, .data], laidTests := true, laidLooks := .later }
def IrChecksUptoCardSaid : Prop := Claim7.holds Tryd.pinned (.plain (OpenSpec.upto irChecksSpec)) irChecksUptoCard

/-- THE SECOND FORM's CARD OF 'rushlightlaw13.IrTexts'. -/
def irTextsUptoCard : Claim7 := { stood := { row := irTextsUptoRow, standIns := [], harness := (true, "f2012ffc3caabe1dea4c6c4ce304f8fc9516f07ad0e7b25c49bb110ab1326584"), looks := false }, kinds := [], alts := [], laidByText := true, laidKinds := [.data, .data, .data], laidTests := true, laidLooks := .later }
def IrTextsUptoCardSaid : Prop := Claim7.holds Tryd.pinned (.plain (OpenSpec.upto irTextsSpec)) irTextsUptoCard

/-- THE SECOND FORM's CARD OF 'rushlightlaw13.IrTells'. -/
def irTellsUptoCard : Claim7 := { stood := { row := irTellsUptoRow, standIns := [], harness := (true, "f2012ffc3caabe1dea4c6c4ce304f8fc9516f07ad0e7b25c49bb110ab1326584"), looks := false }, kinds := [], alts := [], laidByText := true, laidKinds := [.data, .data, .data], laidTests := true, laidLooks := .later }
def IrTellsUptoCardSaid : Prop := Claim7.holds Tryd.pinned (.plain (OpenSpec.upto irTellsSpec)) irTellsUptoCard
end Rows
end Go.Proofs.YtkbimbpaaikkeaaDoor
