/-
  DERIVED. GIVEN WITH THE SEED: THE CARDS: each row of YtbhlmbacgbfaoaaDoorRows.lean that lists a variable, with what it lists TIED to the program's text (the seventh form; the later family's looks); each row that meets fmt, with fmt's text TOLD by the authors' own Lean function (tested against real Go, not proved from fmt's source: count such statements apart). THE CARD IS WHAT COUNTS. Prove the row's statement (the work); the ties are given (YtbhlmbacgbfaoaaDoorTie.lean); close each card by the builder's one call (the guide's Derived/Test/ToyasCard.lean, 'card_holds'). Laid BY PROGRAM, IN A SANDBOX (cutbox-door.mjs). By AI agents, Wed Nov 11 2026. No macro, syntax, notation, axiom, sorry.
-/
import Derived.Test.YtbhlmbacgbfaoaaDoorRows
import GoSem.ClaimSeven
namespace Go.Proofs.YtbhlmbacgbfaoaaDoor
namespace Rows

/-- THE TIED CARD OF 'cardexlaw01.UtfTells'. -/
def utfTellsCard : Claim7 := { stood := { row := utfTellsRow, standIns := [], harness := (true, "2ae7477dd9effadabab43c165e0c9c58ab7c8cea69010982674ef0994d6b5fd2"), looks := false }, kinds := [], alts := [], laidByText := true, laidKinds := [.data, .pinned], laidTests := true, laidLooks := .later }
def UtfTellsCardSaid : Prop := Claim7.holds Tryd.pinned (.plain (OpenSpec.ofChange utfTellsSpec)) utfTellsCard

/-- THE TIED CARD OF 'cardexlaw01.UtfEach'. -/
def utfEachCard : Claim7 := { stood := { row := utfEachRow, standIns := [], harness := (true, "2ae7477dd9effadabab43c165e0c9c58ab7c8cea69010982674ef0994d6b5fd2"), looks := false }, kinds := [], alts := [], laidByText := true, laidKinds := [.data, .pinned], laidTests := true, laidLooks := .later }
def UtfEachCardSaid : Prop := Claim7.holds Tryd.pinned (.plain (OpenSpec.ofChange utfEachSpec)) utfEachCard

/-- THE TIED CARD OF 'cardexlaw01.UtfParts'. -/
def utfPartsCard : Claim7 := { stood := { row := utfPartsRow, standIns := [], harness := (true, "2ae7477dd9effadabab43c165e0c9c58ab7c8cea69010982674ef0994d6b5fd2"), looks := false }, kinds := [], alts := [], laidByText := true, laidKinds := [.data, .pinned], laidTests := true, laidLooks := .later }
def UtfPartsCardSaid : Prop := Claim7.holds Tryd.pinned (.plain (OpenSpec.ofChange utfPartsSpec)) utfPartsCard

/-- THE TIED CARD OF 'cardexlaw01.UtfLines'. -/
def utfLinesCard : Claim7 := { stood := { row := utfLinesRow, standIns := [], harness := (true, "2ae7477dd9effadabab43c165e0c9c58ab7c8cea69010982674ef0994d6b5fd2"), looks := false }, kinds := [], alts := [], laidByText := true, laidKinds := [.data, .pinned], laidTests := true, laidLooks := .later }
def UtfLinesCardSaid : Prop := Claim7.holds Tryd.pinned (.plain (OpenSpec.ofChange utfLinesSpec)) utfLinesCard

/-- THE TIED CARD OF 'cardexlaw06.PrepTells'. -/
def prepTellsCard : Claim7 := { stood := { row := prepTellsRow, standIns := [], harness := (true, "2ae7477dd9effadabab43c165e0c9c58ab7c8cea69010982674ef0994d6b5fd2"), looks := false }, kinds := [], alts := [], laidByText := true, laidKinds := [.data, .pinned], laidTests := true, laidLooks := .later }
def PrepTellsCardSaid : Prop := Claim7.holds Tryd.pinned (.plain (OpenSpec.ofChange prepTellsSpec)) prepTellsCard

/-- THE TIED CARD OF 'cardexlaw06.PrepStays'. -/
def prepStaysCard : Claim7 := { stood := { row := prepStaysRow, standIns := [], harness := (true, "2ae7477dd9effadabab43c165e0c9c58ab7c8cea69010982674ef0994d6b5fd2"), looks := false }, kinds := [], alts := [], laidByText := true, laidKinds := [.data, .pinned], laidTests := true, laidLooks := .later }
def PrepStaysCardSaid : Prop := Claim7.holds Tryd.pinned (.plain (OpenSpec.ofChange prepStaysSpec)) prepStaysCard

/-- THE TIED CARD OF 'cardexlaw06.PrepEach'. -/
def prepEachCard : Claim7 := { stood := { row := prepEachRow, standIns := [], harness := (true, "2ae7477dd9effadabab43c165e0c9c58ab7c8cea69010982674ef0994d6b5fd2"), looks := false }, kinds := [], alts := [], laidByText := true, laidKinds := [.data, .pinned], laidTests := true, laidLooks := .later }
def PrepEachCardSaid : Prop := Claim7.holds Tryd.pinned (.plain (OpenSpec.ofChange prepEachSpec)) prepEachCard

/-- THE TIED CARD OF 'cardexlaw06.PrepWays'. -/
def prepWaysCard : Claim7 := { stood := { row := prepWaysRow, standIns := [], harness := (true, "2ae7477dd9effadabab43c165e0c9c58ab7c8cea69010982674ef0994d6b5fd2"), looks := false }, kinds := [], alts := [], laidByText := true, laidKinds := [.data, .pinned], laidTests := true, laidLooks := .later }
def PrepWaysCardSaid : Prop := Claim7.holds Tryd.pinned (.plain (OpenSpec.ofChange prepWaysSpec)) prepWaysCard

/-- THE TIED CARD OF 'cardexlaw06.PrepGone'. -/
def prepGoneCard : Claim7 := { stood := { row := prepGoneRow, standIns := [], harness := (true, "2ae7477dd9effadabab43c165e0c9c58ab7c8cea69010982674ef0994d6b5fd2"), looks := false }, kinds := [], alts := [], laidByText := true, laidKinds := [.data, .pinned], laidTests := true, laidLooks := .later }
def PrepGoneCardSaid : Prop := Claim7.holds Tryd.pinned (.plain (OpenSpec.ofChange prepGoneSpec)) prepGoneCard

/-- THE TIED CARD OF 'cardexlaw04.CsvBack'. -/
def csvBackCard : Claim7 := { stood := { row := csvBackRow, standIns := [], harness := (true, "2ae7477dd9effadabab43c165e0c9c58ab7c8cea69010982674ef0994d6b5fd2"), looks := false }, kinds := [], alts := [], laidByText := true, laidKinds := [.data, .pinned], laidTests := true, laidLooks := .later }
def CsvBackCardSaid : Prop := Claim7.holds Tryd.pinned (.plain (OpenSpec.ofChange csvBackSpec)) csvBackCard

/-- THE TIED CARD OF 'cardexlaw04.CsvBounds'. -/
def csvBoundsCard : Claim7 := { stood := { row := csvBoundsRow, standIns := [], harness := (true, "2ae7477dd9effadabab43c165e0c9c58ab7c8cea69010982674ef0994d6b5fd2"), looks := false }, kinds := [], alts := [], laidByText := true, laidKinds := [.data, .pinned], laidTests := true, laidLooks := .later }
def CsvBoundsCardSaid : Prop := Claim7.holds Tryd.pinned (.plain (OpenSpec.ofChange csvBoundsSpec)) csvBoundsCard

/-- THE TIED CARD OF 'cardexlaw04.CsvFields'. -/
def csvFieldsCard : Claim7 := { stood := { row := csvFieldsRow, standIns := [], harness := (true, "2ae7477dd9effadabab43c165e0c9c58ab7c8cea69010982674ef0994d6b5fd2"), looks := false }, kinds := [], alts := [], laidByText := true, laidKinds := [.data, .pinned], laidTests := true, laidLooks := .later }
def CsvFieldsCardSaid : Prop := Claim7.holds Tryd.pinned (.plain (OpenSpec.ofChange csvFieldsSpec)) csvFieldsCard

/-- THE SECOND FORM's CARD OF 'cardexlaw01.UtfTells'. -/
def utfTellsUptoCard : Claim7 := { stood := { row := utfTellsUptoRow, standIns := [], harness := (true, "2ae7477dd9effadabab43c165e0c9c58ab7c8cea69010982674ef0994d6b5fd2"), looks := false }, kinds := [], alts := [], laidByText := true, laidKinds := [.data, .pinned], laidTests := true, laidLooks := .later }
def UtfTellsUptoCardSaid : Prop := Claim7.holds Tryd.pinned (.plain (OpenSpec.upto utfTellsSpec)) utfTellsUptoCard

/-- THE SECOND FORM's CARD OF 'cardexlaw01.UtfEach'. -/
def utfEachUptoCard : Claim7 := { stood := { row := utfEachUptoRow, standIns := [], harness := (true, "2ae7477dd9effadabab43c165e0c9c58ab7c8cea69010982674ef0994d6b5fd2"), looks := false }, kinds := [], alts := [], laidByText := true, laidKinds := [.data, .pinned], laidTests := true, laidLooks := .later }
def UtfEachUptoCardSaid : Prop := Claim7.holds Tryd.pinned (.plain (OpenSpec.upto utfEachSpec)) utfEachUptoCard

/-- THE SECOND FORM's CARD OF 'cardexlaw01.UtfParts'. -/
def utfPartsUptoCard : Claim7 := { stood := { row := utfPartsUptoRow, standIns := [], harness := (true, "2ae7477dd9effadabab43c165e0c9c58ab7c8cea69010982674ef0994d6b5fd2"), looks := false }, kinds := [], alts := [], laidByText := true, laidKinds := [.data, .pinned], laidTests := true, laidLooks := .later }
def UtfPartsUptoCardSaid : Prop := Claim7.holds Tryd.pinned (.plain (OpenSpec.upto utfPartsSpec)) utfPartsUptoCard

/-- THE SECOND FORM's CARD OF 'cardexlaw01.UtfLines'. -/
def utfLinesUptoCard : Claim7 := { stood := { row := utfLinesUptoRow, standIns := [], harness := (true, "2ae7477dd9effadabab43c165e0c9c58ab7c8cea69010982674ef0994d6b5fd2"), looks := false }, kinds := [], alts := [], laidByText := true, laidKinds := [.data, .pinned], laidTests := true, laidLooks := .later }
def UtfLinesUptoCardSaid : Prop := Claim7.holds Tryd.pinned (.plain (OpenSpec.upto utfLinesSpec)) utfLinesUptoCard

/-- THE SECOND FORM's CARD OF 'cardexlaw06.PrepTells'. -/
def prepTellsUptoCard : Claim7 := { stood := { row := prepTellsUptoRow, standIns := [], harness := (true, "2ae7477dd9effadabab43c165e0c9c58ab7c8cea69010982674ef0994d6b5fd2"), looks := false }, kinds := [], alts := [], laidByText := true, laidKinds := [.data, .pinned], laidTests := true, laidLooks := .later }
def PrepTellsUptoCardSaid : Prop := Claim7.holds Tryd.pinned (.plain (OpenSpec.upto prepTellsSpec)) prepTellsUptoCard

/-- THE SECOND FORM's CARD OF 'cardexlaw06.PrepStays'. -/
def prepStaysUptoCard : Claim7 := { stood := { row := prepStaysUptoRow, standIns := [], harness := (true, "2ae7477dd9effadabab43c165e0c9c58ab7c8cea69010982674ef0994d6b5fd2"), looks := false }, kinds := [], alts := [], laidByText := true, laidKinds := [.data, .pinned], laidTests := true, laidLooks := .later }
def PrepStaysUptoCardSaid : Prop := Claim7.holds Tryd.pinned (.plain (OpenSpec.upto prepStaysSpec)) prepStaysUptoCard

/-- THE SECOND FORM's CARD OF 'cardexlaw06.PrepEach'. -/
def prepEachUptoCard : Claim7 := { stood := { row := prepEachUptoRow, standIns := [], harness := (true, "2ae7477dd9effadabab43c165e0c9c58ab7c8cea69010982674ef0994d6b5fd2"), looks := false }, kinds := [], alts := [], laidByText := true, laidKinds := [.data, .pinned], laidTests := true, laidLooks := .later }
def PrepEachUptoCardSaid : Prop := Claim7.holds Tryd.pinned (.plain (OpenSpec.upto prepEachSpec)) prepEachUptoCard

/-- THE SECOND FORM's CARD OF 'cardexlaw06.PrepWays'. -/
def prepWaysUptoCard : Claim7 := { stood := { row := prepWaysUptoRow, standIns := [], harness := (true, "2ae7477dd9effadabab43c165e0c9c58ab7c8cea69010982674ef0994d6b5fd2"), looks := false }, kinds := [], alts := [], laidByText := true, laidKinds := [.data, .pinned], laidTests := true, laidLooks := .later }
def PrepWaysUptoCardSaid : Prop := Claim7.holds Tryd.pinned (.plain (OpenSpec.upto prepWaysSpec)) prepWaysUptoCard

/-- THE SECOND FORM's CARD OF 'cardexlaw06.PrepGone'. -/
def prepGoneUptoCard : Claim7 := { stood := { row := prepGoneUptoRow, standIns := [], harness := (true, "2ae7477dd9effadabab43c165e0c9c58ab7c8cea69010982674ef0994d6b5fd2"), looks := false }, kinds := [], alts := [], laidByText := true, laidKinds := [.data, .pinned], laidTests := true, laidLooks := .later }
def PrepGoneUptoCardSaid : Prop := Claim7.holds Tryd.pinned (.plain (OpenSpec.upto prepGoneSpec)) prepGoneUptoCard

/-- THE SECOND FORM's CARD OF 'cardexlaw04.CsvBack'. -/
def csvBackUptoCard : Claim7 := { stood := { row := csvBackUptoRow, standIns := [], harness := (true, "2ae7477dd9effadabab43c165e0c9c58ab7c8cea69010982674ef0994d6b5fd2"), looks := false }, kinds := [], alts := [], laidByText := true, laidKinds := [.data, .pinned], laidTests := true, laidLooks := .later }
def CsvBackUptoCardSaid : Prop := Claim7.holds Tryd.pinned (.plain (OpenSpec.upto csvBackSpec)) csvBackUptoCard

/-- THE SECOND FORM's CARD OF 'cardexlaw04.CsvBounds'. -/
def csvBoundsUptoCard : Claim7 := { stood := { row := csvBoundsUptoRow, standIns := [], harness := (true, "2ae7477dd9effadabab43c165e0c9c58ab7c8cea69010982674ef0994d6b5fd2"), looks := false }, kinds := [], alts := [], laidByText := true, laidKinds := [.data, .pinned], laidTests := true, laidLooks := .later }
def CsvBoundsUptoCardSaid : Prop := Claim7.holds Tryd.pinned (.plain (OpenSpec.upto csvBoundsSpec)) csvBoundsUptoCard

/-- THE SECOND FORM's CARD OF 'cardexlaw04.CsvFields'. -/
def csvFieldsUptoCard : Claim7 := { stood := { row := csvFieldsUptoRow, standIns := [], harness := (true, "2ae7477dd9effadabab43c165e0c9c58ab7c8cea69010982674ef0994d6b5fd2"), looks := false }, kinds := [], alts := [], laidByText := true, laidKinds := [.data, .pinned], laidTests := true, laidLooks := .later }
def CsvFieldsUptoCardSaid : Prop := Claim7.holds Tryd.pinned (.plain (OpenSpec.upto csvFieldsSpec)) csvFieldsUptoCard
end Rows
end Go.Proofs.YtbhlmbacgbfaoaaDoor
