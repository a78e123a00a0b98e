/-
  DERIVED. GIVEN WITH THE SEED: THE CARDS: each row of YtekcidbpejicdaaGreatDoorRows.lean that lists a variable, with what it lists TIED to the program's text (the seventh form; the later family's looks); each row that meets fmt, with fmt's text TOLD by the authors' own Lean function (tested against real Go, not proved from fmt's source: count such statements apart). THE CARD IS WHAT COUNTS. Prove the row's statement (the work); the ties are given (YtekcidbpejicdaaGreatDoorTie.lean); close each card by the builder's one call (the guide's Derived/Test/ToyasCard.lean, 'card_holds'). Laid BY PROGRAM, IN A SANDBOX (cutbox-door.mjs). By AI agents, Wed Nov 11 2026. No macro, syntax, notation, axiom, sorry.
-/
import Derived.Test.YtekcidbpejicdaaGreatDoorRows
import GoSem.ClaimSeven
namespace Go.Proofs.YtekcidbpejicdaaGreatDoor
namespace Rows

/-- THE TIED CARD OF 'cardcaselaw17.CardsInto'. -/
def cardsIntoCard : Claim7 := { stood := { row := cardsIntoRow, standIns := [], harness := (true, "031d7648a7e22b905e6fcd89e29753b659f22c72b057625e2824136fd930c6d0"), looks := true }, kinds := [], alts := [], laidByText := true, laidKinds := [.data, .pinned, .pinned], laidTests := true, laidLooks := .later }
def CardsIntoCardSaid : Prop := Claim7.holds Tryz.pinned (.plain (OpenSpec.ofChange cardsIntoSpec)) cardsIntoCard

/-- THE TIED CARD OF 'cardcaselaw17.CardsOf'. -/
def cardsOfCard : Claim7 := { stood := { row := cardsOfRow, standIns := [], harness := (true, "031d7648a7e22b905e6fcd89e29753b659f22c72b057625e2824136fd930c6d0"), looks := true }, kinds := [], alts := [], laidByText := true, laidKinds := [.data, .pinned, .pinned], laidTests := true, laidLooks := .later }
def CardsOfCardSaid : Prop := Claim7.holds Tryz.pinned (.plain (OpenSpec.ofChange cardsOfSpec)) cardsOfCard

/-- THE TIED CARD OF 'cardcaselaw17.CardsBack'. -/
def cardsBackCard : Claim7 := { stood := { row := cardsBackRow, standIns := [], harness := (true, "031d7648a7e22b905e6fcd89e29753b659f22c72b057625e2824136fd930c6d0"), looks := true }, kinds := [], alts := [], laidByText := true, laidKinds := [.data, .pinned, .pinned], laidTests := true, laidLooks := .later }
def CardsBackCardSaid : Prop := Claim7.holds Tryz.pinned (.plain (OpenSpec.ofChange cardsBackSpec)) cardsBackCard

/-- THE TIED CARD OF 'cardcaselaw17.CardsTwice'. -/
def cardsTwiceCard : Claim7 := { stood := { row := cardsTwiceRow, standIns := [], harness := (true, "031d7648a7e22b905e6fcd89e29753b659f22c72b057625e2824136fd930c6d0"), looks := true }, kinds := [], alts := [], laidByText := true, laidKinds := [.data, .pinned, .pinned], laidTests := true, laidLooks := .later }
def CardsTwiceCardSaid : Prop := Claim7.holds Tryz.pinned (.plain (OpenSpec.ofChange cardsTwiceSpec)) cardsTwiceCard

/-- THE TIED CARD OF 'cardcaselaw17.CardsNew'. -/
def cardsNewCard : Claim7 := { stood := { row := cardsNewRow, standIns := [], harness := (true, "031d7648a7e22b905e6fcd89e29753b659f22c72b057625e2824136fd930c6d0"), looks := true }, kinds := [], alts := [], laidByText := true, laidKinds := [.data, .pinned, .pinned], laidTests := true, laidLooks := .later }
def CardsNewCardSaid : Prop := Claim7.holds Tryz.pinned (.plain (OpenSpec.ofChange cardsNewSpec)) cardsNewCard

/-- THE TIED CARD OF 'cardcaselaw17.CardsTexts'. -/
def cardsTextsCard : Claim7 := { stood := { row := cardsTextsRow, standIns := [], harness := (true, "031d7648a7e22b905e6fcd89e29753b659f22c72b057625e2824136fd930c6d0"), looks := true }, kinds := [], alts := [], laidByText := true, laidKinds := [.data, .pinned, .pinned], laidTests := true, laidLooks := .later }
def CardsTextsCardSaid : Prop := Claim7.holds Tryz.pinned (.plain (OpenSpec.ofChange cardsTextsSpec)) cardsTextsCard

/-- THE SECOND FORM's CARD OF 'cardcaselaw17.CardsInto'. -/
def cardsIntoUptoCard : Claim7 := { stood := { row := cardsIntoUptoRow, standIns := [], harness := (true, "031d7648a7e22b905e6fcd89e29753b659f22c72b057625e2824136fd930c6d0"), looks := true }, kinds := [], alts := [], laidByText := true, laidKinds := [.data, .pinned, .pinned], laidTests := true, laidLooks := .later }
def CardsIntoUptoCardSaid : Prop := Claim7.holds Tryz.pinned (.plain (OpenSpec.upto cardsIntoSpec)) cardsIntoUptoCard

/-- THE SECOND FORM's CARD OF 'cardcaselaw17.CardsOf'. -/
def cardsOfUptoCard : Claim7 := { stood := { row := cardsOfUptoRow, standIns := [], harness := (true, "031d7648a7e22b905e6fcd89e29753b659f22c72b057625e2824136fd930c6d0"), looks := true }, kinds := [], alts := [], laidByText := true, laidKinds := [.data, .pinned, .pinned], laidTests := true, laidLooks := .later }
def CardsOfUptoCardSaid : Prop := Claim7.holds Tryz.pinned (.plain (OpenSpec.upto cardsOfSpec)) cardsOfUptoCard

/-- THE SECOND FORM's CARD OF 'cardcaselaw17.CardsBack'. -/
def cardsBackUptoCard : Claim7 := { stood := { row := cardsBackUptoRow, standIns := [], harness := (true, "031d7648a7e22b905e6fcd89e29753b659f22c72b057625e2824136fd930c6d0"), looks := true }, kinds := [], alts := [], laidByText := true, laidKinds := [.data, .pinned, .pinned], laidTests := true, laidLooks := .later }
def CardsBackUptoCardSaid : Prop := Claim7.holds Tryz.pinned (.plain (OpenSpec.upto cardsBackSpec)) cardsBackUptoCard

/-- THE SECOND FORM's CARD OF 'cardcaselaw17.CardsTwice'. -/
def cardsTwiceUptoCard : Claim7 := { stood := { row := cardsTwiceUptoRow, standIns := [], harness := (true, "031d7648a7e22b905e6fcd89e29753b659f22c72b057625e2824136fd930c6d0"), looks := true }, kinds := [], alts := [], laidByText := true, laidKinds := [.data, .pinned, .pinned], laidTests := true, laidLooks := .later }
def CardsTwiceUptoCardSaid : Prop := Claim7.holds Tryz.pinned (.plain (OpenSpec.upto cardsTwiceSpec)) cardsTwiceUptoCard

/-- THE SECOND FORM's CARD OF 'cardcaselaw17.CardsNew'. -/
def cardsNewUptoCard : Claim7 := { stood := { row := cardsNewUptoRow, standIns := [], harness := (true, "031d7648a7e22b905e6fcd89e29753b659f22c72b057625e2824136fd930c6d0"), looks := true }, kinds := [], alts := [], laidByText := true, laidKinds := [.data, .pinned, .pinned], laidTests := true, laidLooks := .later }
def CardsNewUptoCardSaid : Prop := Claim7.holds Tryz.pinned (.plain (OpenSpec.upto cardsNewSpec)) cardsNewUptoCard

/-- THE SECOND FORM's CARD OF 'cardcaselaw17.CardsTexts'. -/
def cardsTextsUptoCard : Claim7 := { stood := { row := cardsTextsUptoRow, standIns := [], harness := (true, "031d7648a7e22b905e6fcd89e29753b659f22c72b057625e2824136fd930c6d0"), looks := true }, kinds := [], alts := [], laidByText := true, laidKinds := [.data, .pinned, .pinned], laidTests := true, laidLooks := .later }
def CardsTextsUptoCardSaid : Prop := Claim7.holds Tryz.pinned (.plain (OpenSpec.upto cardsTextsSpec)) cardsTextsUptoCard
end Rows
end Go.Proofs.YtekcidbpejicdaaGreatDoor
