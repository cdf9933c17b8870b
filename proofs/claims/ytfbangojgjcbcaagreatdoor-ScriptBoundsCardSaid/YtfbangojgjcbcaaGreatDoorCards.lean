/-
  DERIVED. GIVEN WITH THE SEED: THE CARDS: each row of YtfbangojgjcbcaaGreatDoorRows.lean that lists a variable, with what it lists TIED to the program's text (the seventh form; the later family's looks); each row that meets fmt, with fmt's text TOLD by the authors' own Lean function (tested against real Go, not proved from fmt's source: count such statements apart). THE CARD IS WHAT COUNTS. Prove the row's statement (the work); the ties are given (YtfbangojgjcbcaaGreatDoorTie.lean); close each card by the builder's one call (the guide's Derived/Test/ToyasCard.lean, 'card_holds'). Laid BY PROGRAM, IN A SANDBOX (cutbox-door.mjs). By AI agents, Wed Nov 11 2026. No macro, syntax, notation, axiom, sorry.
-/
import Derived.Test.YtfbangojgjcbcaaGreatDoorRows
import GoSem.ClaimSeven
namespace Go.Proofs.YtfbangojgjcbcaaGreatDoor
namespace Rows

/-- THE TIED CARD OF 'guidepostlaw19.ConfParses'. -/
def confParsesCard : Claim7 := { stood := { row := confParsesRow, standIns := [], harness := (true, "0c9262f98c986d30b4204bcec8151dd39da746ab48b4ce60b9265432a0880f53"), looks := true }, kinds := [], alts := [], laidByText := true, laidKinds := [.data, .data, .data, .data, .sentinel, .sentinel, .pinned], laidTests := true, laidLooks := .later }
def ConfParsesCardSaid : Prop := Claim7.holds Tryz.pinned (.plain (OpenSpec.ofChange confParsesSpec)) confParsesCard

/-- THE TIED CARD OF 'guidepostlaw19.ConfBounds'. -/
def confBoundsCard : Claim7 := { stood := { row := confBoundsRow, standIns := [], harness := (true, "0c9262f98c986d30b4204bcec8151dd39da746ab48b4ce60b9265432a0880f53"), looks := true }, kinds := [], alts := [], laidByText := true, laidKinds := [.data, .data, .data, .data, .sentinel, .sentinel, .pinned], laidTests := true, laidLooks := .later }
def ConfBoundsCardSaid : Prop := Claim7.holds Tryz.pinned (.plain (OpenSpec.ofChange confBoundsSpec)) confBoundsCard

/-- THE TIED CARD OF 'guidepostlaw19.ConfCuts'. -/
def confCutsCard : Claim7 := { stood := { row := confCutsRow, standIns := [], harness := (true, "0c9262f98c986d30b4204bcec8151dd39da746ab48b4ce60b9265432a0880f53"), looks := true }, kinds := [], alts := [], laidByText := true, laidKinds := [.data, .data, .data, .data, .sentinel, .sentinel, .pinned], laidTests := true, laidLooks := .later }
def ConfCutsCardSaid : Prop := Claim7.holds Tryz.pinned (.plain (OpenSpec.ofChange confCutsSpec)) confCutsCard

/-- THE TIED CARD OF 'guidepostlaw19.ConfTexts'. -/
def confTextsCard : Claim7 := { stood := { row := confTextsRow, standIns := [], harness := (true, "0c9262f98c986d30b4204bcec8151dd39da746ab48b4ce60b9265432a0880f53"), looks := true }, kinds := [], alts := [], laidByText := true, laidKinds := [.data, .data, .data, .data, .sentinel, .sentinel, .pinned], laidTests := true, laidLooks := .later }
def ConfTextsCardSaid : Prop := Claim7.holds Tryz.pinned (.plain (OpenSpec.ofChange confTextsSpec)) confTextsCard

/-- THE TIED CARD OF 'guidepostlaw19.ConfMeans'. -/
def confMeansCard : Claim7 := { stood := { row := confMeansRow, standIns := [], harness := (true, "0c9262f98c986d30b4204bcec8151dd39da746ab48b4ce60b9265432a0880f53"), looks := true }, kinds := [], alts := [], laidByText := true, laidKinds := [.data, .data, .data, .data, .sentinel, .sentinel, .pinned], laidTests := true, laidLooks := .later }
def ConfMeansCardSaid : Prop := Claim7.holds Tryz.pinned (.plain (OpenSpec.ofChange confMeansSpec)) confMeansCard

/-- THE TIED CARD OF 'guidepostlaw25.ScriptActs'. -/
def scriptActsCard : Claim7 := { stood := { row := scriptActsRow, standIns := [], harness := (true, "0c9262f98c986d30b4204bcec8151dd39da746ab48b4ce60b9265432a0880f53"), looks := true }, kinds := [], alts := [], laidByText := true, laidKinds := [.data, .data, .data, .data, .sentinel, .sentinel, .pinned], laidTests := true, laidLooks := .later }
def ScriptActsCardSaid : Prop := Claim7.holds Tryz.pinned (.plain (OpenSpec.ofChange scriptActsSpec)) scriptActsCard

/-- THE TIED CARD OF 'guidepostlaw25.ScriptLinks'. -/
def scriptLinksCard : Claim7 := { stood := { row := scriptLinksRow, standIns := [], harness := (true, "0c9262f98c986d30b4204bcec8151dd39da746ab48b4ce60b9265432a0880f53"), looks := true }, kinds := [], alts := [], laidByText := true, laidKinds := [.data, .data, .data, .data, .sentinel, .sentinel, .pinned], laidTests := true, laidLooks := .later }
def ScriptLinksCardSaid : Prop := Claim7.holds Tryz.pinned (.plain (OpenSpec.ofChange scriptLinksSpec)) scriptLinksCard

/-- THE TIED CARD OF 'guidepostlaw25.ScriptBounds'. -/
def scriptBoundsCard : Claim7 := { stood := { row := scriptBoundsRow, standIns := [], harness := (true, "0c9262f98c986d30b4204bcec8151dd39da746ab48b4ce60b9265432a0880f53"), looks := true }, kinds := [], alts := [], laidByText := true, laidKinds := [.data, .data, .data, .data, .sentinel, .sentinel, .pinned], laidTests := true, laidLooks := .later }
def ScriptBoundsCardSaid : Prop := Claim7.holds Tryz.pinned (.plain (OpenSpec.ofChange scriptBoundsSpec)) scriptBoundsCard

/-- THE TIED CARD OF 'guidepostlaw25.ScriptTexts'. -/
def scriptTextsCard : Claim7 := { stood := { row := scriptTextsRow, standIns := [], harness := (true, "0c9262f98c986d30b4204bcec8151dd39da746ab48b4ce60b9265432a0880f53"), looks := true }, kinds := [], alts := [], laidByText := true, laidKinds := [.data, .data, .data, .data, .sentinel, .sentinel, .pinned], laidTests := true, laidLooks := .later }
def ScriptTextsCardSaid : Prop := Claim7.holds Tryz.pinned (.plain (OpenSpec.ofChange scriptTextsSpec)) scriptTextsCard

/-- THE TIED CARD OF 'guidepostlaw25.ScriptBack'. -/
def scriptBackCard : Claim7 := { stood := { row := scriptBackRow, standIns := [], harness := (true, "0c9262f98c986d30b4204bcec8151dd39da746ab48b4ce60b9265432a0880f53"), looks := true }, kinds := [], alts := [], laidByText := true, laidKinds := [.data, .data, .data, .data, .sentinel, .sentinel, .pinned], laidTests := true, laidLooks := .later }
def ScriptBackCardSaid : Prop := Claim7.holds Tryz.pinned (.plain (OpenSpec.ofChange scriptBackSpec)) scriptBackCard

/-- THE SECOND FORM's CARD OF 'guidepostlaw19.ConfParses'. -/
def confParsesUptoCard : Claim7 := { stood := { row := confParsesUptoRow, standIns := [], harness := (true, "0c9262f98c986d30b4204bcec8151dd39da746ab48b4ce60b9265432a0880f53"), looks := true }, kinds := [], alts := [], laidByText := true, laidKinds := [.data, .data, .data, .data, .sentinel, .sentinel, .pinned], laidTests := true, laidLooks := .later }
def ConfParsesUptoCardSaid : Prop := Claim7.holds Tryz.pinned (.plain (OpenSpec.upto confParsesSpec)) confParsesUptoCard

/-- THE SECOND FORM's CARD OF 'guidepostlaw19.ConfBounds'. -/
def confBoundsUptoCard : Claim7 := { stood := { row := confBoundsUptoRow, standIns := [], harness := (true, "0c9262f98c986d30b4204bcec8151dd39da746ab48b4ce60b9265432a0880f53"), looks := true }, kinds := [], alts := [], laidByText := true, laidKinds := [.data, .data, .data, .data, .sentinel, .sentinel, .pinned], laidTests := true, laidLooks := .later }
def ConfBoundsUptoCardSaid : Prop := Claim7.holds Tryz.pinned (.plain (OpenSpec.upto confBoundsSpec)) confBoundsUptoCard

/-- THE SECOND FORM's CARD OF 'guidepostlaw19.ConfCuts'. -/
def confCutsUptoCard : Claim7 := { stood := { row := confCutsUptoRow, standIns := [], harness := (true, "0c9262f98c986d30b4204bcec8151dd39da746ab48b4ce60b9265432a0880f53"), looks := true }, kinds := [], alts := [], laidByText := true, laidKinds := [.data, .data, .data, .data, .sentinel, .sentinel, .pinned], laidTests := true, laidLooks := .later }
def ConfCutsUptoCardSaid : Prop := Claim7.holds Tryz.pinned (.plain (OpenSpec.upto confCutsSpec)) confCutsUptoCard

/-- THE SECOND FORM's CARD OF 'guidepostlaw19.ConfTexts'. -/
def confTextsUptoCard : Claim7 := { stood := { row := confTextsUptoRow, standIns := [], harness := (true, "0c9262f98c986d30b4204bcec8151dd39da746ab48b4ce60b9265432a0880f53"), looks := true }, kinds := [], alts := [], laidByText := true, laidKinds := [.data, .data, .data, .data, .sentinel, .sentinel, .pinned], laidTests := true, laidLooks := .later }
def ConfTextsUptoCardSaid : Prop := Claim7.holds Tryz.pinned (.plain (OpenSpec.upto confTextsSpec)) confTextsUptoCard

/-- THE SECOND FORM's CARD OF 'guidepostlaw19.ConfMeans'. -/
def confMeansUptoCard : Claim7 := { stood := { row := confMeansUptoRow, standIns := [], harness := (true, "0c9262f98c986d30b4204bcec8151dd39da746ab48b4ce60b9265432a0880f53"), looks := true }, kinds := [], alts := [], laidByText := true, laidKinds := [.data, .data, .data, .data, .sentinel, .sentinel, .pinned], laidTests := true, laidLooks := .later }
def ConfMeansUptoCardSaid : Prop := Claim7.holds Tryz.pinned (.plain (OpenSpec.upto confMeansSpec)) confMeansUptoCard

/-- THE SECOND FORM's CARD OF 'guidepostlaw25.ScriptActs'. -/
def scriptActsUptoCard : Claim7 := { stood := { row := scriptActsUptoRow, standIns := [], harness := (true, "0c9262f98c986d30b4204bcec8151dd39da746ab48b4ce60b9265432a0880f53"), looks := true }, kinds := [], alts := [], laidByText := true, laidKinds := [.data, .data, .data, .data, .sentinel, .sentinel, .pinned], laidTests := true, laidLooks := .later }
def ScriptActsUptoCardSaid : Prop := Claim7.holds Tryz.pinned (.plain (OpenSpec.upto scriptActsSpec)) scriptActsUptoCard

/-- THE SECOND FORM's CARD OF 'guidepostlaw25.ScriptLinks'. -/
def scriptLinksUptoCard : Claim7 := { stood := { row := scriptLinksUptoRow, standIns := [], harness := (true, "0c9262f98c986d30b4204bcec8151dd39da746ab48b4ce60b9265432a0880f53"), looks := true }, kinds := [], alts := [], laidByText := true, laidKinds := [.data, .data, .data, .data, .sentinel, .sentinel, .pinned], laidTests := true, laidLooks := .later }
def ScriptLinksUptoCardSaid : Prop := Claim7.holds Tryz.pinned (.plain (OpenSpec.upto scriptLinksSpec)) scriptLinksUptoCard

/-- THE SECOND FORM's CARD OF 'guidepostlaw25.ScriptBounds'. -/
def scriptBoundsUptoCard : Claim7 := { stood := { row := scriptBoundsUptoRow, standIns := [], harness := (true, "0c9262f98c986d30b4204bcec8151dd39da746ab48b4ce60b9265432a0880f53"), looks := true }, kinds := [], alts := [], laidByText := true, laidKinds := [.data, .data, .data, .data, .sentinel, .sentinel, .pinned], laidTests := true, laidLooks := .later }
def ScriptBoundsUptoCardSaid : Prop := Claim7.holds Tryz.pinned (.plain (OpenSpec.upto scriptBoundsSpec)) scriptBoundsUptoCard

/-- THE SECOND FORM's CARD OF 'guidepostlaw25.ScriptTexts'. -/
def scriptTextsUptoCard : Claim7 := { stood := { row := scriptTextsUptoRow, standIns := [], harness := (true, "0c9262f98c986d30b4204bcec8151dd39da746ab48b4ce60b9265432a0880f53"), looks := true }, kinds := [], alts := [], laidByText := true, laidKinds := [.data, .data, .data, .data, .sentinel, .sentinel, .pinned], laidTests := true, laidLooks := .later }
def ScriptTextsUptoCardSaid : Prop := Claim7.holds Tryz.pinned (.plain (OpenSpec.upto scriptTextsSpec)) scriptTextsUptoCard

/-- THE SECOND FORM's CARD OF 'guidepostlaw25.ScriptBack'. -/
def scriptBackUptoCard : Claim7 := { stood := { row := scriptBackUptoRow, standIns := [], harness := (true, "0c9262f98c986d30b4204bcec8151dd39da746ab48b4ce60b9265432a0880f53"), looks := true }, kinds := [], alts := [], laidByText := true, laidKinds := [.data, .data, .data, .data, .sentinel, .sentinel, .pinned], laidTests := true, laidLooks := .later }
def ScriptBackUptoCardSaid : Prop := Claim7.holds Tryz.pinned (.plain (OpenSpec.upto scriptBackSpec)) scriptBackUptoCard
end Rows
end Go.Proofs.YtfbangojgjcbcaaGreatDoor
