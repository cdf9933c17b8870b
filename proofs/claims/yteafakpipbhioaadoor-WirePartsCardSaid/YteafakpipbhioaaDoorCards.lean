/-
  DERIVED. GIVEN WITH THE SEED: THE CARDS: each row of YteafakpipbhioaaDoorRows.lean that lists a variable, with what it lists TIED to the program's text (the seventh form; the later family's looks); each row that meets fmt, with fmt's text TOLD by the authors' own Lean function (tested against real Go, not proved from fmt's source: count such statements apart). THE CARD IS WHAT COUNTS. Prove the row's statement (the work); the ties are given (YteafakpipbhioaaDoorTie.lean); close each card by the builder's one call (the guide's Derived/Test/ToyasCard.lean, 'card_holds'). Laid BY PROGRAM, IN A SANDBOX (cutbox-door.mjs). By AI agents, Wed Nov 11 2026. No macro, syntax, notation, axiom, sorry.
-/
import Derived.Test.YteafakpipbhioaaDoorRows
import GoSem.ClaimSeven
namespace Go.Proofs.YteafakpipbhioaaDoor
namespace Rows

/-- THE TIED CARD OF 'guidepostlaw01.WireNumbers'. -/
def wireNumbersCard : Claim7 := { stood := { row := wireNumbersRow, standIns := [], harness := (true, "08c825e2ae2d364044890b6d1802676ec90025dbf97fc38cf072176021503151"), looks := true }, kinds := [], alts := [], laidByText := true, laidKinds := [.data, .data, .data, .data, .sentinel, .sentinel, .pinned], laidTests := true, laidLooks := .later }
def WireNumbersCardSaid : Prop := Claim7.holds Tryd.pinned (.plain (OpenSpec.ofChange wireNumbersSpec)) wireNumbersCard

/-- THE TIED CARD OF 'guidepostlaw01.WireAddrs'. -/
def wireAddrsCard : Claim7 := { stood := { row := wireAddrsRow, standIns := [], harness := (true, "08c825e2ae2d364044890b6d1802676ec90025dbf97fc38cf072176021503151"), looks := true }, kinds := [], alts := [], laidByText := true, laidKinds := [.data, .data, .data, .data, .sentinel, .sentinel, .pinned], laidTests := true, laidLooks := .later }
def WireAddrsCardSaid : Prop := Claim7.holds Tryd.pinned (.plain (OpenSpec.ofChange wireAddrsSpec)) wireAddrsCard

/-- THE TIED CARD OF 'guidepostlaw01.WireHex'. -/
def wireHexCard : Claim7 := { stood := { row := wireHexRow, standIns := [], harness := (true, "08c825e2ae2d364044890b6d1802676ec90025dbf97fc38cf072176021503151"), looks := true }, kinds := [], alts := [], laidByText := true, laidKinds := [.data, .data, .data, .data, .sentinel, .sentinel, .pinned], laidTests := true, laidLooks := .later }
def WireHexCardSaid : Prop := Claim7.holds Tryd.pinned (.plain (OpenSpec.ofChange wireHexSpec)) wireHexCard

/-- THE TIED CARD OF 'guidepostlaw01.WireBack'. -/
def wireBackCard : Claim7 := { stood := { row := wireBackRow, standIns := [], harness := (true, "08c825e2ae2d364044890b6d1802676ec90025dbf97fc38cf072176021503151"), looks := true }, kinds := [], alts := [], laidByText := true, laidKinds := [.data, .data, .data, .data, .sentinel, .sentinel, .pinned], laidTests := true, laidLooks := .later }
def WireBackCardSaid : Prop := Claim7.holds Tryd.pinned (.plain (OpenSpec.ofChange wireBackSpec)) wireBackCard

/-- THE TIED CARD OF 'guidepostlaw01.WirePrefixes'. -/
def wirePrefixesCard : Claim7 := { stood := { row := wirePrefixesRow, standIns := [], harness := (true, "08c825e2ae2d364044890b6d1802676ec90025dbf97fc38cf072176021503151"), looks := true }, kinds := [], alts := [], laidByText := true, laidKinds := [.data, .data, .data, .data, .sentinel, .sentinel, .pinned], laidTests := true, laidLooks := .later }
def WirePrefixesCardSaid : Prop := Claim7.holds Tryd.pinned (.plain (OpenSpec.ofChange wirePrefixesSpec)) wirePrefixesCard

/-- THE TIED CARD OF 'guidepostlaw01.WireOrder'. -/
def wireOrderCard : Claim7 := { stood := { row := wireOrderRow, standIns := [], harness := (true, "08c825e2ae2d364044890b6d1802676ec90025dbf97fc38cf072176021503151"), looks := true }, kinds := [], alts := [], laidByText := true, laidKinds := [.data, .data, .data, .data, .sentinel, .sentinel, .pinned], laidTests := true, laidLooks := .later }
def WireOrderCardSaid : Prop := Claim7.holds Tryd.pinned (.plain (OpenSpec.ofChange wireOrderSpec)) wireOrderCard

/-- THE TIED CARD OF 'guidepostlaw01.WireParts'. -/
def wirePartsCard : Claim7 := { stood := { row := wirePartsRow, standIns := [], harness := (true, "08c825e2ae2d364044890b6d1802676ec90025dbf97fc38cf072176021503151"), looks := true }, kinds := [], alts := [], laidByText := true, laidKinds := [.data, .data, .data, .data, .sentinel, .sentinel, .pinned], laidTests := true, laidLooks := .later }
def WirePartsCardSaid : Prop := Claim7.holds Tryd.pinned (.plain (OpenSpec.ofChange wirePartsSpec)) wirePartsCard

/-- THE TIED CARD OF 'guidepostlaw01.WireSplits'. -/
def wireSplitsCard : Claim7 := { stood := { row := wireSplitsRow, standIns := [], harness := (true, "08c825e2ae2d364044890b6d1802676ec90025dbf97fc38cf072176021503151"), looks := true }, kinds := [], alts := [], laidByText := true, laidKinds := [.data, .data, .data, .data, .sentinel, .sentinel, .pinned], laidTests := true, laidLooks := .later }
def WireSplitsCardSaid : Prop := Claim7.holds Tryd.pinned (.plain (OpenSpec.ofChange wireSplitsSpec)) wireSplitsCard

/-- THE TIED CARD OF 'guidepostlaw05.CtlBytes'. -/
def ctlBytesCard : Claim7 := { stood := { row := ctlBytesRow, standIns := [], harness := (true, "08c825e2ae2d364044890b6d1802676ec90025dbf97fc38cf072176021503151"), looks := true }, kinds := [], alts := [], laidByText := true, laidKinds := [.data, .data, .data, .data, .sentinel, .sentinel, .pinned], laidTests := true, laidLooks := .later }
def CtlBytesCardSaid : Prop := Claim7.holds Tryd.pinned (.plain (OpenSpec.ofChange ctlBytesSpec)) ctlBytesCard

/-- THE TIED CARD OF 'guidepostlaw05.CtlTexts'. -/
def ctlTextsCard : Claim7 := { stood := { row := ctlTextsRow, standIns := [], harness := (true, "08c825e2ae2d364044890b6d1802676ec90025dbf97fc38cf072176021503151"), looks := true }, kinds := [], alts := [], laidByText := true, laidKinds := [.data, .data, .data, .data, .sentinel, .sentinel, .pinned], laidTests := true, laidLooks := .later }
def CtlTextsCardSaid : Prop := Claim7.holds Tryd.pinned (.plain (OpenSpec.ofChange ctlTextsSpec)) ctlTextsCard

/-- THE TIED CARD OF 'guidepostlaw05.CtlFarther'. -/
def ctlFartherCard : Claim7 := { stood := { row := ctlFartherRow, standIns := [], harness := (true, "08c825e2ae2d364044890b6d1802676ec90025dbf97fc38cf072176021503151"), looks := true }, kinds := [], alts := [], laidByText := true, laidKinds := [.data, .data, .data, .data, .sentinel, .sentinel, .pinned], laidTests := true, laidLooks := .later }
def CtlFartherCardSaid : Prop := Claim7.holds Tryd.pinned (.plain (OpenSpec.ofChange ctlFartherSpec)) ctlFartherCard

/-- THE TIED CARD OF 'guidepostlaw05.CtlLists'. -/
def ctlListsCard : Claim7 := { stood := { row := ctlListsRow, standIns := [], harness := (true, "08c825e2ae2d364044890b6d1802676ec90025dbf97fc38cf072176021503151"), looks := true }, kinds := [], alts := [], laidByText := true, laidKinds := [.data, .data, .data, .data, .sentinel, .sentinel, .pinned], laidTests := true, laidLooks := .later }
def CtlListsCardSaid : Prop := Claim7.holds Tryd.pinned (.plain (OpenSpec.ofChange ctlListsSpec)) ctlListsCard

/-- THE TIED CARD OF 'guidepostlaw05.CtlMeans'. -/
def ctlMeansCard : Claim7 := { stood := { row := ctlMeansRow, standIns := [], harness := (true, "08c825e2ae2d364044890b6d1802676ec90025dbf97fc38cf072176021503151"), looks := true }, kinds := [], alts := [], laidByText := true, laidKinds := [.data, .data, .data, .data, .sentinel, .sentinel, .pinned], laidTests := true, laidLooks := .later }
def CtlMeansCardSaid : Prop := Claim7.holds Tryd.pinned (.plain (OpenSpec.ofChange ctlMeansSpec)) ctlMeansCard

/-- THE SECOND FORM's CARD OF 'guidepostlaw01.WireNumbers'. -/
def wireNumbersUptoCard : Claim7 := { stood := { row := wireNumbersUptoRow, standIns := [], harness := (true, "08c825e2ae2d364044890b6d1802676ec90025dbf97fc38cf072176021503151"), looks := true }, kinds := [], alts := [], laidByText := true, laidKinds := [.data, .data, .data, .data, .sentinel, .sentinel, .pinned], laidTests := true, laidLooks := .later }
def WireNumbersUptoCardSaid : Prop := Claim7.holds Tryd.pinned (.plain (OpenSpec.upto wireNumbersSpec)) wireNumbersUptoCard

/-- THE SECOND FORM's CARD OF 'guidepostlaw01.WireAddrs'. -/
def wireAddrsUptoCard : Claim7 := { stood := { row := wireAddrsUptoRow, standIns := [], harness := (true, "08c825e2ae2d364044890b6d1802676ec90025dbf97fc38cf072176021503151"), looks := true }, kinds := [], alts := [], laidByText := true, laidKinds := [.data, .data, .data, .data, .sentinel, .sentinel, .pinned], laidTests := true, laidLooks := .later }
def WireAddrsUptoCardSaid : Prop := Claim7.holds Tryd.pinned (.plain (OpenSpec.upto wireAddrsSpec)) wireAddrsUptoCard

/-- THE SECOND FORM's CARD OF 'guidepostlaw01.WireHex'. -/
def wireHexUptoCard : Claim7 := { stood := { row := wireHexUptoRow, standIns := [], harness := (true, "08c825e2ae2d364044890b6d1802676ec90025dbf97fc38cf072176021503151"), looks := true }, kinds := [], alts := [], laidByText := true, laidKinds := [.data, .data, .data, .data, .sentinel, .sentinel, .pinned], laidTests := true, laidLooks := .later }
def WireHexUptoCardSaid : Prop := Claim7.holds Tryd.pinned (.plain (OpenSpec.upto wireHexSpec)) wireHexUptoCard

/-- THE SECOND FORM's CARD OF 'guidepostlaw01.WireBack'. -/
def wireBackUptoCard : Claim7 := { stood := { row := wireBackUptoRow, standIns := [], harness := (true, "08c825e2ae2d364044890b6d1802676ec90025dbf97fc38cf072176021503151"), looks := true }, kinds := [], alts := [], laidByText := true, laidKinds := [.data, .data, .data, .data, .sentinel, .sentinel, .pinned], laidTests := true, laidLooks := .later }
def WireBackUptoCardSaid : Prop := Claim7.holds Tryd.pinned (.plain (OpenSpec.upto wireBackSpec)) wireBackUptoCard

/-- THE SECOND FORM's CARD OF 'guidepostlaw01.WirePrefixes'. -/
def wirePrefixesUptoCard : Claim7 := { stood := { row := wirePrefixesUptoRow, standIns := [], harness := (true, "08c825e2ae2d364044890b6d1802676ec90025dbf97fc38cf072176021503151"), looks := true }, kinds := [], alts := [], laidByText := true, laidKinds := [.data, .data, .data, .data, .sentinel, .sentinel, .pinned], laidTests := true, laidLooks := .later }
def WirePrefixesUptoCardSaid : Prop := Claim7.holds Tryd.pinned (.plain (OpenSpec.upto wirePrefixesSpec)) wirePrefixesUptoCard

/-- THE SECOND FORM's CARD OF 'guidepostlaw01.WireOrder'. -/
def wireOrderUptoCard : Claim7 := { stood := { row := wireOrderUptoRow, standIns := [], harness := (true, "08c825e2ae2d364044890b6d1802676ec90025dbf97fc38cf072176021503151"), looks := true }, kinds := [], alts := [], laidByText := true, laidKinds := [.data, .data, .data, .data, .sentinel, .sentinel, .pinned], laidTests := true, laidLooks := .later }
def WireOrderUptoCardSaid : Prop := Claim7.holds Tryd.pinned (.plain (OpenSpec.upto wireOrderSpec)) wireOrderUptoCard

/-- THE SECOND FORM's CARD OF 'guidepostlaw01.WireParts'. -/
def wirePartsUptoCard : Claim7 := { stood := { row := wirePartsUptoRow, standIns := [], harness := (true, "08c825e2ae2d364044890b6d1802676ec90025dbf97fc38cf072176021503151"), looks := true }, kinds := [], alts := [], laidByText := true, laidKinds := [.data, .data, .data, .data, .sentinel, .sentinel, .pinned], laidTests := true, laidLooks := .later }
def WirePartsUptoCardSaid : Prop := Claim7.holds Tryd.pinned (.plain (OpenSpec.upto wirePartsSpec)) wirePartsUptoCard

/-- THE SECOND FORM's CARD OF 'guidepostlaw01.WireSplits'. -/
def wireSplitsUptoCard : Claim7 := { stood := { row := wireSplitsUptoRow, standIns := [], harness := (true, "08c825e2ae2d364044890b6d1802676ec90025dbf97fc38cf072176021503151"), looks := true }, kinds := [], alts := [], laidByText := true, laidKinds := [.data, .data, .data, .data, .sentinel, .sentinel, .pinned], laidTests := true, laidLooks := .later }
def WireSplitsUptoCardSaid : Prop := Claim7.holds Tryd.pinned (.plain (OpenSpec.upto wireSplitsSpec)) wireSplitsUptoCard

/-- THE SECOND FORM's CARD OF 'guidepostlaw05.CtlBytes'. -/
def ctlBytesUptoCard : Claim7 := { stood := { row := ctlBytesUptoRow, standIns := [], harness := (true, "08c825e2ae2d364044890b6d1802676ec90025dbf97fc38cf072176021503151"), looks := true }, kinds := [], alts := [], laidByText := true, laidKinds := [.data, .data, .data, .data, .sentinel, .sentinel, .pinned], laidTests := true, laidLooks := .later }
def CtlBytesUptoCardSaid : Prop := Claim7.holds Tryd.pinned (.plain (OpenSpec.upto ctlBytesSpec)) ctlBytesUptoCard

/-- THE SECOND FORM's CARD OF 'guidepostlaw05.CtlTexts'. -/
def ctlTextsUptoCard : Claim7 := { stood := { row := ctlTextsUptoRow, standIns := [], harness := (true, "08c825e2ae2d364044890b6d1802676ec90025dbf97fc38cf072176021503151"), looks := true }, kinds := [], alts := [], laidByText := true, laidKinds := [.data, .data, .data, .data, .sentinel, .sentinel, .pinned], laidTests := true, laidLooks := .later }
def CtlTextsUptoCardSaid : Prop := Claim7.holds Tryd.pinned (.plain (OpenSpec.upto ctlTextsSpec)) ctlTextsUptoCard

/-- THE SECOND FORM's CARD OF 'guidepostlaw05.CtlFarther'. -/
def ctlFartherUptoCard : Claim7 := { stood := { row := ctlFartherUptoRow, standIns := [], harness := (true, "08c825e2ae2d364044890b6d1802676ec90025dbf97fc38cf072176021503151"), looks := true }, kinds := [], alts := [], laidByText := true, laidKinds := [.data, .data, .data, .data, .sentinel, .sentinel, .pinned], laidTests := true, laidLooks := .later }
def CtlFartherUptoCardSaid : Prop := Claim7.holds Tryd.pinned (.plain (OpenSpec.upto ctlFartherSpec)) ctlFartherUptoCard

/-- THE SECOND FORM's CARD OF 'guidepostlaw05.CtlLists'. -/
def ctlListsUptoCard : Claim7 := { stood := { row := ctlListsUptoRow, standIns := [], harness := (true, "08c825e2ae2d364044890b6d1802676ec90025dbf97fc38cf072176021503151"), looks := true }, kinds := [], alts := [], laidByText := true, laidKinds := [.data, .data, .data, .data, .sentinel, .sentinel, .pinned], laidTests := true, laidLooks := .later }
def CtlListsUptoCardSaid : Prop := Claim7.holds Tryd.pinned (.plain (OpenSpec.upto ctlListsSpec)) ctlListsUptoCard

/-- THE SECOND FORM's CARD OF 'guidepostlaw05.CtlMeans'. -/
def ctlMeansUptoCard : Claim7 := { stood := { row := ctlMeansUptoRow, standIns := [], harness := (true, "08c825e2ae2d364044890b6d1802676ec90025dbf97fc38cf072176021503151"), looks := true }, kinds := [], alts := [], laidByText := true, laidKinds := [.data, .data, .data, .data, .sentinel, .sentinel, .pinned], laidTests := true, laidLooks := .later }
def CtlMeansUptoCardSaid : Prop := Claim7.holds Tryd.pinned (.plain (OpenSpec.upto ctlMeansSpec)) ctlMeansUptoCard
end Rows
end Go.Proofs.YteafakpipbhioaaDoor
