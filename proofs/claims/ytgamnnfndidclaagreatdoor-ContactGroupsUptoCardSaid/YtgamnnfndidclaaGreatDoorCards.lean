/-
  DERIVED. GIVEN WITH THE SEED: THE CARDS: each row of YtgamnnfndidclaaGreatDoorRows.lean that lists a variable, with what it lists TIED to the program's text (the seventh form; the later family's looks); each row that meets fmt, with fmt's text TOLD by the authors' own Lean function (tested against real Go, not proved from fmt's source: count such statements apart). THE CARD IS WHAT COUNTS. Prove the row's statement (the work); the ties are given (YtgamnnfndidclaaGreatDoorTie.lean); close each card by the builder's one call (the guide's Derived/Test/ToyasCard.lean, 'card_holds'). Laid BY PROGRAM, IN A SANDBOX (cutbox-door.mjs). By AI agents, Wed Nov 11 2026. No macro, syntax, notation, axiom, sorry.
-/
import Derived.Test.YtgamnnfndidclaaGreatDoorRows
import GoSem.ClaimSeven
namespace Go.Proofs.YtgamnnfndidclaaGreatDoor
namespace Rows

/-- THE TIED CARD OF 'cardexlaw13.SheetWrong'. -/
def sheetWrongCard : Claim7 := { stood := { row := sheetWrongRow, standIns := [], harness := (true, "d58050fe13c217d0146636b17af65d1948c4b9e61568d6cd6daf2db39096ef1c"), looks := true }, kinds := [], alts := [], laidByText := true, laidKinds := [.data, .data, .data, .pinned, .pinned], laidTests := true, laidLooks := .later }
def SheetWrongCardSaid : Prop := Claim7.holds Tryz.pinned (.plain (OpenSpec.ofChange sheetWrongSpec)) sheetWrongCard

/-- THE TIED CARD OF 'cardexlaw13.SheetTells'. -/
def sheetTellsCard : Claim7 := { stood := { row := sheetTellsRow, standIns := [], harness := (true, "d58050fe13c217d0146636b17af65d1948c4b9e61568d6cd6daf2db39096ef1c"), looks := true }, kinds := [], alts := [], laidByText := true, laidKinds := [.data, .data, .data, .pinned, .pinned], laidTests := true, laidLooks := .later }
def SheetTellsCardSaid : Prop := Claim7.holds Tryz.pinned (.plain (OpenSpec.ofChange sheetTellsSpec)) sheetTellsCard

/-- THE TIED CARD OF 'cardexlaw13.SheetBack'. -/
def sheetBackCard : Claim7 := { stood := { row := sheetBackRow, standIns := [], harness := (true, "d58050fe13c217d0146636b17af65d1948c4b9e61568d6cd6daf2db39096ef1c"), looks := true }, kinds := [], alts := [], laidByText := true, laidKinds := [.data, .data, .data, .pinned, .pinned], laidTests := true, laidLooks := .later }
def SheetBackCardSaid : Prop := Claim7.holds Tryz.pinned (.plain (OpenSpec.ofChange sheetBackSpec)) sheetBackCard

/-- THE TIED CARD OF 'cardexlaw13.SheetColumns'. -/
def sheetColumnsCard : Claim7 := { stood := { row := sheetColumnsRow, standIns := [], harness := (true, "d58050fe13c217d0146636b17af65d1948c4b9e61568d6cd6daf2db39096ef1c"), looks := true }, kinds := [], alts := [], laidByText := true, laidKinds := [.data, .data, .data, .pinned, .pinned], laidTests := true, laidLooks := .later }
def SheetColumnsCardSaid : Prop := Claim7.holds Tryz.pinned (.plain (OpenSpec.ofChange sheetColumnsSpec)) sheetColumnsCard

/-- THE TIED CARD OF 'cardexlaw13.SheetMany'. -/
def sheetManyCard : Claim7 := { stood := { row := sheetManyRow, standIns := [], harness := (true, "d58050fe13c217d0146636b17af65d1948c4b9e61568d6cd6daf2db39096ef1c"), looks := true }, kinds := [], alts := [], laidByText := true, laidKinds := [.data, .data, .data, .pinned, .pinned], laidTests := true, laidLooks := .later }
def SheetManyCardSaid : Prop := Claim7.holds Tryz.pinned (.plain (OpenSpec.ofChange sheetManySpec)) sheetManyCard

/-- THE TIED CARD OF 'cardexlaw12.ContactGroups'. -/
def contactGroupsCard : Claim7 := { stood := { row := contactGroupsRow, standIns := [], harness := (true, "d58050fe13c217d0146636b17af65d1948c4b9e61568d6cd6daf2db39096ef1c"), looks := true }, kinds := [], alts := [], laidByText := true, laidKinds := [.data, .data, .data, .pinned, .pinned], laidTests := true, laidLooks := .later }
def ContactGroupsCardSaid : Prop := Claim7.holds Tryz.pinned (.plain (OpenSpec.ofChange contactGroupsSpec)) contactGroupsCard

/-- THE TIED CARD OF 'cardexlaw12.ContactParts'. -/
def contactPartsCard : Claim7 := { stood := { row := contactPartsRow, standIns := [], harness := (true, "d58050fe13c217d0146636b17af65d1948c4b9e61568d6cd6daf2db39096ef1c"), looks := true }, kinds := [], alts := [], laidByText := true, laidKinds := [.data, .data, .data, .pinned, .pinned], laidTests := true, laidLooks := .later }
def ContactPartsCardSaid : Prop := Claim7.holds Tryz.pinned (.plain (OpenSpec.ofChange contactPartsSpec)) contactPartsCard

/-- THE TIED CARD OF 'cardexlaw12.ContactTells'. -/
def contactTellsCard : Claim7 := { stood := { row := contactTellsRow, standIns := [], harness := (true, "d58050fe13c217d0146636b17af65d1948c4b9e61568d6cd6daf2db39096ef1c"), looks := true }, kinds := [], alts := [], laidByText := true, laidKinds := [.data, .data, .data, .pinned, .pinned], laidTests := true, laidLooks := .later }
def ContactTellsCardSaid : Prop := Claim7.holds Tryz.pinned (.plain (OpenSpec.ofChange contactTellsSpec)) contactTellsCard

/-- THE TIED CARD OF 'cardexlaw12.ContactBack'. -/
def contactBackCard : Claim7 := { stood := { row := contactBackRow, standIns := [], harness := (true, "d58050fe13c217d0146636b17af65d1948c4b9e61568d6cd6daf2db39096ef1c"), looks := true }, kinds := [], alts := [], laidByText := true, laidKinds := [.data, .data, .data, .pinned, .pinned], laidTests := true, laidLooks := .later }
def ContactBackCardSaid : Prop := Claim7.holds Tryz.pinned (.plain (OpenSpec.ofChange contactBackSpec)) contactBackCard

/-- THE TIED CARD OF 'cardexlaw12.ContactTwice'. -/
def contactTwiceCard : Claim7 := { stood := { row := contactTwiceRow, standIns := [], harness := (true, "d58050fe13c217d0146636b17af65d1948c4b9e61568d6cd6daf2db39096ef1c"), looks := true }, kinds := [], alts := [], laidByText := true, laidKinds := [.data, .data, .data, .pinned, .pinned], laidTests := true, laidLooks := .later }
def ContactTwiceCardSaid : Prop := Claim7.holds Tryz.pinned (.plain (OpenSpec.ofChange contactTwiceSpec)) contactTwiceCard

/-- THE TIED CARD OF 'cardexlaw12.ContactNeeds'. -/
def contactNeedsCard : Claim7 := { stood := { row := contactNeedsRow, standIns := [], harness := (true, "d58050fe13c217d0146636b17af65d1948c4b9e61568d6cd6daf2db39096ef1c"), looks := true }, kinds := [], alts := [], laidByText := true, laidKinds := [.data, .data, .data, .pinned, .pinned], laidTests := true, laidLooks := .later }
def ContactNeedsCardSaid : Prop := Claim7.holds Tryz.pinned (.plain (OpenSpec.ofChange contactNeedsSpec)) contactNeedsCard

/-- THE SECOND FORM's CARD OF 'cardexlaw13.SheetWrong'. -/
def sheetWrongUptoCard : Claim7 := { stood := { row := sheetWrongUptoRow, standIns := [], harness := (true, "d58050fe13c217d0146636b17af65d1948c4b9e61568d6cd6daf2db39096ef1c"), looks := true }, kinds := [], alts := [], laidByText := true, laidKinds := [.data, .data, .data, .pinned, .pinned], laidTests := true, laidLooks := .later }
def SheetWrongUptoCardSaid : Prop := Claim7.holds Tryz.pinned (.plain (OpenSpec.upto sheetWrongSpec)) sheetWrongUptoCard

/-- THE SECOND FORM's CARD OF 'cardexlaw13.SheetTells'. -/
def sheetTellsUptoCard : Claim7 := { stood := { row := sheetTellsUptoRow, standIns := [], harness := (true, "d58050fe13c217d0146636b17af65d1948c4b9e61568d6cd6daf2db39096ef1c"), looks := true }, kinds := [], alts := [], laidByText := true, laidKinds := [.data, .data, .data, .pinned, .pinned], laidTests := true, laidLooks := .later }
def SheetTellsUptoCardSaid : Prop := Claim7.holds Tryz.pinned (.plain (OpenSpec.upto sheetTellsSpec)) sheetTellsUptoCard

/-- THE SECOND FORM's CARD OF 'cardexlaw13.SheetBack'. -/
def sheetBackUptoCard : Claim7 := { stood := { row := sheetBackUptoRow, standIns := [], harness := (true, "d58050fe13c217d0146636b17af65d1948c4b9e61568d6cd6daf2db39096ef1c"), looks := true }, kinds := [], alts := [], laidByText := true, laidKinds := [.data, .data, .data, .pinned, .pinned], laidTests := true, laidLooks := .later }
def SheetBackUptoCardSaid : Prop := Claim7.holds Tryz.pinned (.plain (OpenSpec.upto sheetBackSpec)) sheetBackUptoCard

/-- THE SECOND FORM's CARD OF 'cardexlaw13.SheetColumns'. -/
def sheetColumnsUptoCard : Claim7 := { stood := { row := sheetColumnsUptoRow, standIns := [], harness := (true, "d58050fe13c217d0146636b17af65d1948c4b9e61568d6cd6daf2db39096ef1c"), looks := true }, kinds := [], alts := [], laidByText := true, laidKinds := [.data, .data, .data, .pinned, .pinned], laidTests := true, laidLooks := .later }
def SheetColumnsUptoCardSaid : Prop := Claim7.holds Tryz.pinned (.plain (OpenSpec.upto sheetColumnsSpec)) sheetColumnsUptoCard

/-- THE SECOND FORM's CARD OF 'cardexlaw13.SheetMany'. -/
def sheetManyUptoCard : Claim7 := { stood := { row := sheetManyUptoRow, standIns := [], harness := (true, "d58050fe13c217d0146636b17af65d1948c4b9e61568d6cd6daf2db39096ef1c"), looks := true }, kinds := [], alts := [], laidByText := true, laidKinds := [.data, .data, .data, .pinned, .pinned], laidTests := true, laidLooks := .later }
def SheetManyUptoCardSaid : Prop := Claim7.holds Tryz.pinned (.plain (OpenSpec.upto sheetManySpec)) sheetManyUptoCard

/-- THE SECOND FORM's CARD OF 'cardexlaw12.ContactGroups'. -/
def contactGroupsUptoCard : Claim7 := { stood := { row := contactGroupsUptoRow, standIns := [], harness := (true, "d58050fe13c217d0146636b17af65d1948c4b9e61568d6cd6daf2db39096ef1c"), looks := true }, kinds := [], alts := [], laidByText := true, laidKinds := [.data, .data, .data, .pinned, .pinned], laidTests := true, laidLooks := .later }
def ContactGroupsUptoCardSaid : Prop := Claim7.holds Tryz.pinned (.plain (OpenSpec.upto contactGroupsSpec)) contactGroupsUptoCard

/-- THE SECOND FORM's CARD OF 'cardexlaw12.ContactParts'. -/
def contactPartsUptoCard : Claim7 := { stood := { row := contactPartsUptoRow, standIns := [], harness := (true, "d58050fe13c217d0146636b17af65d1948c4b9e61568d6cd6daf2db39096ef1c"), looks := true }, kinds := [], alts := [], laidByText := true, laidKinds := [.data, .data, .data, .pinned, .pinned], laidTests := true, laidLooks := .later }
def ContactPartsUptoCardSaid : Prop := Claim7.holds Tryz.pinned (.plain (OpenSpec.upto contactPartsSpec)) contactPartsUptoCard

/-- THE SECOND FORM's CARD OF 'cardexlaw12.ContactTells'. -/
def contactTellsUptoCard : Claim7 := { stood := { row := contactTellsUptoRow, standIns := [], harness := (true, "d58050fe13c217d0146636b17af65d1948c4b9e61568d6cd6daf2db39096ef1c"), looks := true }, kinds := [], alts := [], laidByText := true, laidKinds := [.data, .data, .data, .pinned, .pinned], laidTests := true, laidLooks := .later }
def ContactTellsUptoCardSaid : Prop := Claim7.holds Tryz.pinned (.plain (OpenSpec.upto contactTellsSpec)) contactTellsUptoCard

/-- THE SECOND FORM's CARD OF 'cardexlaw12.ContactBack'. -/
def contactBackUptoCard : Claim7 := { stood := { row := contactBackUptoRow, standIns := [], harness := (true, "d58050fe13c217d0146636b17af65d1948c4b9e61568d6cd6daf2db39096ef1c"), looks := true }, kinds := [], alts := [], laidByText := true, laidKinds := [.data, .data, .data, .pinned, .pinned], laidTests := true, laidLooks := .later }
def ContactBackUptoCardSaid : Prop := Claim7.holds Tryz.pinned (.plain (OpenSpec.upto contactBackSpec)) contactBackUptoCard

/-- THE SECOND FORM's CARD OF 'cardexlaw12.ContactTwice'. -/
def contactTwiceUptoCard : Claim7 := { stood := { row := contactTwiceUptoRow, standIns := [], harness := (true, "d58050fe13c217d0146636b17af65d1948c4b9e61568d6cd6daf2db39096ef1c"), looks := true }, kinds := [], alts := [], laidByText := true, laidKinds := [.data, .data, .data, .pinned, .pinned], laidTests := true, laidLooks := .later }
def ContactTwiceUptoCardSaid : Prop := Claim7.holds Tryz.pinned (.plain (OpenSpec.upto contactTwiceSpec)) contactTwiceUptoCard

/-- THE SECOND FORM's CARD OF 'cardexlaw12.ContactNeeds'. -/
def contactNeedsUptoCard : Claim7 := { stood := { row := contactNeedsUptoRow, standIns := [], harness := (true, "d58050fe13c217d0146636b17af65d1948c4b9e61568d6cd6daf2db39096ef1c"), looks := true }, kinds := [], alts := [], laidByText := true, laidKinds := [.data, .data, .data, .pinned, .pinned], laidTests := true, laidLooks := .later }
def ContactNeedsUptoCardSaid : Prop := Claim7.holds Tryz.pinned (.plain (OpenSpec.upto contactNeedsSpec)) contactNeedsUptoCard
end Rows
end Go.Proofs.YtgamnnfndidclaaGreatDoor
