/-
  DERIVED. GIVEN WITH THE SEED: THE CARDS: each row of YtjakdbahopbggaaGreatDoorRows.lean that lists a variable, with what it lists TIED to the program's text (the seventh form; the later family's looks); each row that meets fmt, with fmt's text TOLD by the authors' own Lean function (tested against real Go, not proved from fmt's source: count such statements apart). THE CARD IS WHAT COUNTS. Prove the row's statement (the work); the ties are given (YtjakdbahopbggaaGreatDoorTie.lean); close each card by the builder's one call (the guide's Derived/Test/ToyasCard.lean, 'card_holds'). Laid BY PROGRAM, IN A SANDBOX (cutbox-door.mjs). By AI agents, Wed Nov 11 2026. No macro, syntax, notation, axiom, sorry.
-/
import Derived.Test.YtjakdbahopbggaaGreatDoorRows
import GoSem.ClaimSeven
namespace Go.Proofs.YtjakdbahopbggaaGreatDoor
namespace Rows

/-- THE TIED CARD OF 'callboardlaw30.SaveChanged'. -/
def saveChangedCard : Claim7 := { stood := { row := saveChangedRow, standIns := [], harness := (true, "c66e8fb9366a62805cac8aeead4fc67f003fa293992d230a7093365ad8bb6c5a"), looks := true }, kinds := [], alts := [], laidByText := true, laidKinds := [.widerDeep, .widerDeep], laidTests := true, laidLooks := .later }
def SaveChangedCardSaid : Prop := Claim7.holds Tryz.pinned (.plain (OpenSpec.ofChange saveChangedSpec)) saveChangedCard

/-- THE TIED CARD OF 'callboardlaw30.SaveNames'. -/
def saveNamesCard : Claim7 := { stood := { row := saveNamesRow, standIns := [], harness := (true, "c66e8fb9366a62805cac8aeead4fc67f003fa293992d230a7093365ad8bb6c5a"), looks := true }, kinds := [], alts := [], laidByText := true, laidKinds := [.widerDeep, .widerDeep], laidTests := true, laidLooks := .later }
def SaveNamesCardSaid : Prop := Claim7.holds Tryz.pinned (.plain (OpenSpec.ofChange saveNamesSpec)) saveNamesCard

/-- THE SECOND FORM's CARD OF 'callboardlaw30.SaveChanged'. -/
def saveChangedUptoCard : Claim7 := { stood := { row := saveChangedUptoRow, standIns := [], harness := (true, "c66e8fb9366a62805cac8aeead4fc67f003fa293992d230a7093365ad8bb6c5a"), looks := true }, kinds := [], alts := [], laidByText := true, laidKinds := [.widerDeep, .widerDeep], laidTests := true, laidLooks := .later }
def SaveChangedUptoCardSaid : Prop := Claim7.holds Tryz.pinned (.plain (OpenSpec.upto saveChangedSpec)) saveChangedUptoCard

/-- THE SECOND FORM's CARD OF 'callboardlaw30.SaveNames'. -/
def saveNamesUptoCard : Claim7 := { stood := { row := saveNamesUptoRow, standIns := [], harness := (true, "c66e8fb9366a62805cac8aeead4fc67f003fa293992d230a7093365ad8bb6c5a"), looks := true }, kinds := [], alts := [], laidByText := true, laidKinds := [.widerDeep, .widerDeep], laidTests := true, laidLooks := .later }
def SaveNamesUptoCardSaid : Prop := Claim7.holds Tryz.pinned (.plain (OpenSpec.upto saveNamesSpec)) saveNamesUptoCard
end Rows
end Go.Proofs.YtjakdbahopbggaaGreatDoor
