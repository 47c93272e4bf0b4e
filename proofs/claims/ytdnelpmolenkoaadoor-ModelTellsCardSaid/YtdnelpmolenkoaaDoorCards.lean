/-
  DERIVED. GIVEN WITH THE SEED: THE CARDS: each row of YtdnelpmolenkoaaDoorRows.lean that lists a variable, with what it lists TIED to the program's text (the seventh form; the later family's looks); each row that meets fmt, with fmt's text TOLD by the authors' own Lean function (tested against real Go, not proved from fmt's source: count such statements apart). THE CARD IS WHAT COUNTS. Prove the row's statement (the work); the ties are given (YtdnelpmolenkoaaDoorTie.lean); close each card by the builder's one call (the guide's Derived/Test/ToyasCard.lean, 'card_holds'). Laid BY PROGRAM, IN A SANDBOX (cutbox-door.mjs). By AI agents, Wed Nov 11 2026. No macro, syntax, notation, axiom, sorry.
-/
import Derived.Test.YtdnelpmolenkoaaDoorRows
import GoSem.ClaimSeven
namespace Go.Proofs.YtdnelpmolenkoaaDoor
namespace Rows

/-- THE TIED CARD OF 'callboardlaw14.ModelTable'. -/
def modelTableCard : Claim7 := { stood := { row := modelTableRow, standIns := [], harness := (true, "74effa8bdcc6461793cb525bac744757c9bb8457669ab2412638e549a982b219"), looks := true }, kinds := [], alts := [], laidByText := true, laidKinds := [.widerDeep, .widerDeep], laidTests := true, laidLooks := .later }
def ModelTableCardSaid : Prop := Claim7.holds Tryd.pinned (.plain (OpenSpec.ofChange modelTableSpec)) modelTableCard

/-- THE TIED CARD OF 'callboardlaw14.ModelShort'. -/
def modelShortCard : Claim7 := { stood := { row := modelShortRow, standIns := [], harness := (true, "74effa8bdcc6461793cb525bac744757c9bb8457669ab2412638e549a982b219"), looks := true }, kinds := [], alts := [], laidByText := true, laidKinds := [.widerDeep, .widerDeep], laidTests := true, laidLooks := .later }
def ModelShortCardSaid : Prop := Claim7.holds Tryd.pinned (.plain (OpenSpec.ofChange modelShortSpec)) modelShortCard

/-- THE TIED CARD OF 'callboardlaw14.ModelNames'. -/
def modelNamesCard : Claim7 := { stood := { row := modelNamesRow, standIns := [], harness := (true, "74effa8bdcc6461793cb525bac744757c9bb8457669ab2412638e549a982b219"), looks := true }, kinds := [], alts := [], laidByText := true, laidKinds := [.widerDeep, .widerDeep], laidTests := true, laidLooks := .later }
def ModelNamesCardSaid : Prop := Claim7.holds Tryd.pinned (.plain (OpenSpec.ofChange modelNamesSpec)) modelNamesCard

/-- THE TIED CARD OF 'callboardlaw14.ModelEach'. -/
def modelEachCard : Claim7 := { stood := { row := modelEachRow, standIns := [], harness := (true, "74effa8bdcc6461793cb525bac744757c9bb8457669ab2412638e549a982b219"), looks := true }, kinds := [], alts := [], laidByText := true, laidKinds := [.widerDeep, .widerDeep], laidTests := true, laidLooks := .later }
def ModelEachCardSaid : Prop := Claim7.holds Tryd.pinned (.plain (OpenSpec.ofChange modelEachSpec)) modelEachCard

/-- THE TIED CARD OF 'callboardlaw14.ModelAlike'. -/
def modelAlikeCard : Claim7 := { stood := { row := modelAlikeRow, standIns := [], harness := (true, "74effa8bdcc6461793cb525bac744757c9bb8457669ab2412638e549a982b219"), looks := true }, kinds := [], alts := [], laidByText := true, laidKinds := [.widerDeep, .widerDeep], laidTests := true, laidLooks := .later }
def ModelAlikeCardSaid : Prop := Claim7.holds Tryd.pinned (.plain (OpenSpec.ofChange modelAlikeSpec)) modelAlikeCard

/-- THE TIED CARD OF 'callboardlaw14.ModelTells'. -/
def modelTellsCard : Claim7 := { stood := { row := modelTellsRow, standIns := [], harness := (true, "74effa8bdcc6461793cb525bac744757c9bb8457669ab2412638e549a982b219"), looks := true }, kinds := [], alts := [], laidByText := true, laidKinds := [.widerDeep, .widerDeep], laidTests := true, laidLooks := .later }
def ModelTellsCardSaid : Prop := Claim7.holds Tryd.pinned (.plain (OpenSpec.ofChange modelTellsSpec)) modelTellsCard

/-- THE SECOND FORM's CARD OF 'callboardlaw14.ModelTable'. -/
def modelTableUptoCard : Claim7 := { stood := { row := modelTableUptoRow, standIns := [], harness := (true, "74effa8bdcc6461793cb525bac744757c9bb8457669ab2412638e549a982b219"), looks := true }, kinds := [], alts := [], laidByText := true, laidKinds := [.widerDeep, .widerDeep], laidTests := true, laidLooks := .later }
def ModelTableUptoCardSaid : Prop := Claim7.holds Tryd.pinned (.plain (OpenSpec.upto modelTableSpec)) modelTableUptoCard

/-- THE SECOND FORM's CARD OF 'callboardlaw14.ModelShort'. -/
def modelShortUptoCard : Claim7 := { stood := { row := modelShortUptoRow, standIns := [], harness := (true, "74effa8bdcc6461793cb525bac744757c9bb8457669ab2412638e549a982b219"), looks := true }, kinds := [], alts := [], laidByText := true, laidKinds := [.widerDeep, .widerDeep], laidTests := true, laidLooks := .later }
def ModelShortUptoCardSaid : Prop := Claim7.holds Tryd.pinned (.plain (OpenSpec.upto modelShortSpec)) modelShortUptoCard

/-- THE SECOND FORM's CARD OF 'callboardlaw14.ModelNames'. -/
def modelNamesUptoCard : Claim7 := { stood := { row := modelNamesUptoRow, standIns := [], harness := (true, "74effa8bdcc6461793cb525bac744757c9bb8457669ab2412638e549a982b219"), looks := true }, kinds := [], alts := [], laidByText := true, laidKinds := [.widerDeep, .widerDeep], laidTests := true, laidLooks := .later }
def ModelNamesUptoCardSaid : Prop := Claim7.holds Tryd.pinned (.plain (OpenSpec.upto modelNamesSpec)) modelNamesUptoCard

/-- THE SECOND FORM's CARD OF 'callboardlaw14.ModelEach'. -/
def modelEachUptoCard : Claim7 := { stood := { row := modelEachUptoRow, standIns := [], harness := (true, "74effa8bdcc6461793cb525bac744757c9bb8457669ab2412638e549a982b219"), looks := true }, kinds := [], alts := [], laidByText := true, laidKinds := [.widerDeep, .widerDeep], laidTests := true, laidLooks := .later }
def ModelEachUptoCardSaid : Prop := Claim7.holds Tryd.pinned (.plain (OpenSpec.upto modelEachSpec)) modelEachUptoCard

/-- THE SECOND FORM's CARD OF 'callboardlaw14.ModelAlike'. -/
def modelAlikeUptoCard : Claim7 := { stood := { row := modelAlikeUptoRow, standIns := [], harness := (true, "74effa8bdcc6461793cb525bac744757c9bb8457669ab2412638e549a982b219"), looks := true }, kinds := [], alts := [], laidByText := true, laidKinds := [.widerDeep, .widerDeep], laidTests := true, laidLooks := .later }
def ModelAlikeUptoCardSaid : Prop := Claim7.holds Tryd.pinned (.plain (OpenSpec.upto modelAlikeSpec)) modelAlikeUptoCard

/-- THE SECOND FORM's CARD OF 'callboardlaw14.ModelTells'. -/
def modelTellsUptoCard : Claim7 := { stood := { row := modelTellsUptoRow, standIns := [], harness := (true, "74effa8bdcc6461793cb525bac744757c9bb8457669ab2412638e549a982b219"), looks := true }, kinds := [], alts := [], laidByText := true, laidKinds := [.widerDeep, .widerDeep], laidTests := true, laidLooks := .later }
def ModelTellsUptoCardSaid : Prop := Claim7.holds Tryd.pinned (.plain (OpenSpec.upto modelTellsSpec)) modelTellsUptoCard
end Rows
end Go.Proofs.YtdnelpmolenkoaaDoor
