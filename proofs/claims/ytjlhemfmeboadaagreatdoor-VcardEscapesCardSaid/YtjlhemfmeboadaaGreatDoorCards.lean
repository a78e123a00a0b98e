/-
  DERIVED. GIVEN WITH THE SEED: THE CARDS: each row of YtjlhemfmeboadaaGreatDoorRows.lean that lists a variable, with what it lists TIED to the program's text (the seventh form; the later family's looks); each row that meets fmt, with fmt's text TOLD by the authors' own Lean function (tested against real Go, not proved from fmt's source: count such statements apart). THE CARD IS WHAT COUNTS. Prove the row's statement (the work); the ties are given (YtjlhemfmeboadaaGreatDoorTie.lean); close each card by the builder's one call (the guide's Derived/Test/ToyasCard.lean, 'card_holds'). Laid BY PROGRAM, IN A SANDBOX (cutbox-door.mjs). By AI agents, Wed Nov 11 2026. No macro, syntax, notation, axiom, sorry.
-/
import Derived.Test.YtjlhemfmeboadaaGreatDoorRows
import GoSem.ClaimSeven
namespace Go.Proofs.YtjlhemfmeboadaaGreatDoor
namespace Rows

/-- THE TIED CARD OF 'cardcaselaw15.VcardTexts'. -/
def vcardTextsCard : Claim7 := { stood := { row := vcardTextsRow, standIns := [], harness := (true, "6f2f68973e0e097fb97274a308e364642373f6af56c86754bede5c649e024d9f"), looks := true }, kinds := [], alts := [], laidByText := true, laidKinds := [.data, .pinned, .pinned], laidTests := true, laidLooks := .later }
def VcardTextsCardSaid : Prop := Claim7.holds Tryz.pinned (.plain (OpenSpec.ofChange vcardTextsSpec)) vcardTextsCard

/-- THE TIED CARD OF 'cardcaselaw15.VcardParses'. -/
def vcardParsesCard : Claim7 := { stood := { row := vcardParsesRow, standIns := [], harness := (true, "6f2f68973e0e097fb97274a308e364642373f6af56c86754bede5c649e024d9f"), looks := true }, kinds := [], alts := [], laidByText := true, laidKinds := [.data, .pinned, .pinned], laidTests := true, laidLooks := .later }
def VcardParsesCardSaid : Prop := Claim7.holds Tryz.pinned (.plain (OpenSpec.ofChange vcardParsesSpec)) vcardParsesCard

/-- THE TIED CARD OF 'cardcaselaw15.VcardFolds'. -/
def vcardFoldsCard : Claim7 := { stood := { row := vcardFoldsRow, standIns := [], harness := (true, "6f2f68973e0e097fb97274a308e364642373f6af56c86754bede5c649e024d9f"), looks := true }, kinds := [], alts := [], laidByText := true, laidKinds := [.data, .pinned, .pinned], laidTests := true, laidLooks := .later }
def VcardFoldsCardSaid : Prop := Claim7.holds Tryz.pinned (.plain (OpenSpec.ofChange vcardFoldsSpec)) vcardFoldsCard

/-- THE TIED CARD OF 'cardcaselaw15.VcardLong'. -/
def vcardLongCard : Claim7 := { stood := { row := vcardLongRow, standIns := [], harness := (true, "6f2f68973e0e097fb97274a308e364642373f6af56c86754bede5c649e024d9f"), looks := true }, kinds := [], alts := [], laidByText := true, laidKinds := [.data, .pinned, .pinned], laidTests := true, laidLooks := .later }
def VcardLongCardSaid : Prop := Claim7.holds Tryz.pinned (.plain (OpenSpec.ofChange vcardLongSpec)) vcardLongCard

/-- THE TIED CARD OF 'cardcaselaw15.VcardCuts'. -/
def vcardCutsCard : Claim7 := { stood := { row := vcardCutsRow, standIns := [], harness := (true, "6f2f68973e0e097fb97274a308e364642373f6af56c86754bede5c649e024d9f"), looks := true }, kinds := [], alts := [], laidByText := true, laidKinds := [.data, .pinned, .pinned], laidTests := true, laidLooks := .later }
def VcardCutsCardSaid : Prop := Claim7.holds Tryz.pinned (.plain (OpenSpec.ofChange vcardCutsSpec)) vcardCutsCard

/-- THE TIED CARD OF 'cardcaselaw15.VcardLetters'. -/
def vcardLettersCard : Claim7 := { stood := { row := vcardLettersRow, standIns := [], harness := (true, "6f2f68973e0e097fb97274a308e364642373f6af56c86754bede5c649e024d9f"), looks := true }, kinds := [], alts := [], laidByText := true, laidKinds := [.data, .pinned, .pinned], laidTests := true, laidLooks := .later }
def VcardLettersCardSaid : Prop := Claim7.holds Tryz.pinned (.plain (OpenSpec.ofChange vcardLettersSpec)) vcardLettersCard

/-- THE TIED CARD OF 'cardcaselaw15.VcardSame'. -/
def vcardSameCard : Claim7 := { stood := { row := vcardSameRow, standIns := [], harness := (true, "6f2f68973e0e097fb97274a308e364642373f6af56c86754bede5c649e024d9f"), looks := true }, kinds := [], alts := [], laidByText := true, laidKinds := [.data, .pinned, .pinned], laidTests := true, laidLooks := .later }
def VcardSameCardSaid : Prop := Claim7.holds Tryz.pinned (.plain (OpenSpec.ofChange vcardSameSpec)) vcardSameCard

/-- THE TIED CARD OF 'cardcaselaw15.VcardEscapes'. -/
def vcardEscapesCard : Claim7 := { stood := { row := vcardEscapesRow, standIns := [], harness := (true, "6f2f68973e0e097fb97274a308e364642373f6af56c86754bede5c649e024d9f"), looks := true }, kinds := [], alts := [], laidByText := true, laidKinds := [.data, .pinned, .pinned], laidTests := true, laidLooks := .later }
def VcardEscapesCardSaid : Prop := Claim7.holds Tryz.pinned (.plain (OpenSpec.ofChange vcardEscapesSpec)) vcardEscapesCard

/-- THE SECOND FORM's CARD OF 'cardcaselaw15.VcardTexts'. -/
def vcardTextsUptoCard : Claim7 := { stood := { row := vcardTextsUptoRow, standIns := [], harness := (true, "6f2f68973e0e097fb97274a308e364642373f6af56c86754bede5c649e024d9f"), looks := true }, kinds := [], alts := [], laidByText := true, laidKinds := [.data, .pinned, .pinned], laidTests := true, laidLooks := .later }
def VcardTextsUptoCardSaid : Prop := Claim7.holds Tryz.pinned (.plain (OpenSpec.upto vcardTextsSpec)) vcardTextsUptoCard

/-- THE SECOND FORM's CARD OF 'cardcaselaw15.VcardParses'. -/
def vcardParsesUptoCard : Claim7 := { stood := { row := vcardParsesUptoRow, standIns := [], harness := (true, "6f2f68973e0e097fb97274a308e364642373f6af56c86754bede5c649e024d9f"), looks := true }, kinds := [], alts := [], laidByText := true, laidKinds := [.data, .pinned, .pinned], laidTests := true, laidLooks := .later }
def VcardParsesUptoCardSaid : Prop := Claim7.holds Tryz.pinned (.plain (OpenSpec.upto vcardParsesSpec)) vcardParsesUptoCard

/-- THE SECOND FORM's CARD OF 'cardcaselaw15.VcardFolds'. -/
def vcardFoldsUptoCard : Claim7 := { stood := { row := vcardFoldsUptoRow, standIns := [], harness := (true, "6f2f68973e0e097fb97274a308e364642373f6af56c86754bede5c649e024d9f"), looks := true }, kinds := [], alts := [], laidByText := true, laidKinds := [.data, .pinned, .pinned], laidTests := true, laidLooks := .later }
def VcardFoldsUptoCardSaid : Prop := Claim7.holds Tryz.pinned (.plain (OpenSpec.upto vcardFoldsSpec)) vcardFoldsUptoCard

/-- THE SECOND FORM's CARD OF 'cardcaselaw15.VcardLong'. -/
def vcardLongUptoCard : Claim7 := { stood := { row := vcardLongUptoRow, standIns := [], harness := (true, "6f2f68973e0e097fb97274a308e364642373f6af56c86754bede5c649e024d9f"), looks := true }, kinds := [], alts := [], laidByText := true, laidKinds := [.data, .pinned, .pinned], laidTests := true, laidLooks := .later }
def VcardLongUptoCardSaid : Prop := Claim7.holds Tryz.pinned (.plain (OpenSpec.upto vcardLongSpec)) vcardLongUptoCard

/-- THE SECOND FORM's CARD OF 'cardcaselaw15.VcardCuts'. -/
def vcardCutsUptoCard : Claim7 := { stood := { row := vcardCutsUptoRow, standIns := [], harness := (true, "6f2f68973e0e097fb97274a308e364642373f6af56c86754bede5c649e024d9f"), looks := true }, kinds := [], alts := [], laidByText := true, laidKinds := [.data, .pinned, .pinned], laidTests := true, laidLooks := .later }
def VcardCutsUptoCardSaid : Prop := Claim7.holds Tryz.pinned (.plain (OpenSpec.upto vcardCutsSpec)) vcardCutsUptoCard

/-- THE SECOND FORM's CARD OF 'cardcaselaw15.VcardLetters'. -/
def vcardLettersUptoCard : Claim7 := { stood := { row := vcardLettersUptoRow, standIns := [], harness := (true, "6f2f68973e0e097fb97274a308e364642373f6af56c86754bede5c649e024d9f"), looks := true }, kinds := [], alts := [], laidByText := true, laidKinds := [.data, .pinned, .pinned], laidTests := true, laidLooks := .later }
def VcardLettersUptoCardSaid : Prop := Claim7.holds Tryz.pinned (.plain (OpenSpec.upto vcardLettersSpec)) vcardLettersUptoCard

/-- THE SECOND FORM's CARD OF 'cardcaselaw15.VcardSame'. -/
def vcardSameUptoCard : Claim7 := { stood := { row := vcardSameUptoRow, standIns := [], harness := (true, "6f2f68973e0e097fb97274a308e364642373f6af56c86754bede5c649e024d9f"), looks := true }, kinds := [], alts := [], laidByText := true, laidKinds := [.data, .pinned, .pinned], laidTests := true, laidLooks := .later }
def VcardSameUptoCardSaid : Prop := Claim7.holds Tryz.pinned (.plain (OpenSpec.upto vcardSameSpec)) vcardSameUptoCard

/-- THE SECOND FORM's CARD OF 'cardcaselaw15.VcardEscapes'. -/
def vcardEscapesUptoCard : Claim7 := { stood := { row := vcardEscapesUptoRow, standIns := [], harness := (true, "6f2f68973e0e097fb97274a308e364642373f6af56c86754bede5c649e024d9f"), looks := true }, kinds := [], alts := [], laidByText := true, laidKinds := [.data, .pinned, .pinned], laidTests := true, laidLooks := .later }
def VcardEscapesUptoCardSaid : Prop := Claim7.holds Tryz.pinned (.plain (OpenSpec.upto vcardEscapesSpec)) vcardEscapesUptoCard
end Rows
end Go.Proofs.YtjlhemfmeboadaaGreatDoor
