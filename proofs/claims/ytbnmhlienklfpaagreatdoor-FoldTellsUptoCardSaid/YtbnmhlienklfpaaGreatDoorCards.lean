/-
  DERIVED. GIVEN WITH THE SEED: THE CARDS: each row of YtbnmhlienklfpaaGreatDoorRows.lean that lists a variable, with what it lists TIED to the program's text (the seventh form; the later family's looks); each row that meets fmt, with fmt's text TOLD by the authors' own Lean function (tested against real Go, not proved from fmt's source: count such statements apart). THE CARD IS WHAT COUNTS. Prove the row's statement (the work); the ties are given (YtbnmhlienklfpaaGreatDoorTie.lean); close each card by the builder's one call (the guide's Derived/Test/ToyasCard.lean, 'card_holds'). Laid BY PROGRAM, IN A SANDBOX (cutbox-door.mjs). By AI agents, Wed Nov 11 2026. No macro, syntax, notation, axiom, sorry.
-/
import Derived.Test.YtbnmhlienklfpaaGreatDoorRows
import GoSem.ClaimSeven
namespace Go.Proofs.YtbnmhlienklfpaaGreatDoor
namespace Rows

/-- THE TIED CARD OF 'cardexlaw03.FoldTells'. -/
def foldTellsCard : Claim7 := { stood := { row := foldTellsRow, standIns := [], harness := (true, "11610a967e926922ed7af3042d0fd3a9cdfe40671dd55cec3eec283f7ae64cc3"), looks := true }, kinds := [], alts := [], laidByText := true, laidKinds := [.data, .data, .data, .pinned, .pinned], laidTests := true, laidLooks := .later }
def FoldTellsCardSaid : Prop := Claim7.holds Tryz.pinned (.plain (OpenSpec.ofChange foldTellsSpec)) foldTellsCard

/-- THE TIED CARD OF 'cardexlaw03.FoldValues'. -/
def foldValuesCard : Claim7 := { stood := { row := foldValuesRow, standIns := [], harness := (true, "11610a967e926922ed7af3042d0fd3a9cdfe40671dd55cec3eec283f7ae64cc3"), looks := true }, kinds := [], alts := [], laidByText := true, laidKinds := [.data, .data, .data, .pinned, .pinned], laidTests := true, laidLooks := .later }
def FoldValuesCardSaid : Prop := Claim7.holds Tryz.pinned (.plain (OpenSpec.ofChange foldValuesSpec)) foldValuesCard

/-- THE TIED CARD OF 'cardexlaw11.VcardTells'. -/
def vcardTellsCard : Claim7 := { stood := { row := vcardTellsRow, standIns := [], harness := (true, "11610a967e926922ed7af3042d0fd3a9cdfe40671dd55cec3eec283f7ae64cc3"), looks := true }, kinds := [], alts := [], laidByText := true, laidKinds := [.data, .data, .data, .pinned, .pinned], laidTests := true, laidLooks := .later }
def VcardTellsCardSaid : Prop := Claim7.holds Tryz.pinned (.plain (OpenSpec.ofChange vcardTellsSpec)) vcardTellsCard

/-- THE SECOND FORM's CARD OF 'cardexlaw03.FoldTells'. -/
def foldTellsUptoCard : Claim7 := { stood := { row := foldTellsUptoRow, standIns := [], harness := (true, "11610a967e926922ed7af3042d0fd3a9cdfe40671dd55cec3eec283f7ae64cc3"), looks := true }, kinds := [], alts := [], laidByText := true, laidKinds := [.data, .data, .data, .pinned, .pinned], laidTests := true, laidLooks := .later }
def FoldTellsUptoCardSaid : Prop := Claim7.holds Tryz.pinned (.plain (OpenSpec.upto foldTellsSpec)) foldTellsUptoCard

/-- THE SECOND FORM's CARD OF 'cardexlaw03.FoldValues'. -/
def foldValuesUptoCard : Claim7 := { stood := { row := foldValuesUptoRow, standIns := [], harness := (true, "11610a967e926922ed7af3042d0fd3a9cdfe40671dd55cec3eec283f7ae64cc3"), looks := true }, kinds := [], alts := [], laidByText := true, laidKinds := [.data, .data, .data, .pinned, .pinned], laidTests := true, laidLooks := .later }
def FoldValuesUptoCardSaid : Prop := Claim7.holds Tryz.pinned (.plain (OpenSpec.upto foldValuesSpec)) foldValuesUptoCard

/-- THE SECOND FORM's CARD OF 'cardexlaw11.VcardTells'. -/
def vcardTellsUptoCard : Claim7 := { stood := { row := vcardTellsUptoRow, standIns := [], harness := (true, "11610a967e926922ed7af3042d0fd3a9cdfe40671dd55cec3eec283f7ae64cc3"), looks := true }, kinds := [], alts := [], laidByText := true, laidKinds := [.data, .data, .data, .pinned, .pinned], laidTests := true, laidLooks := .later }
def VcardTellsUptoCardSaid : Prop := Claim7.holds Tryz.pinned (.plain (OpenSpec.upto vcardTellsSpec)) vcardTellsUptoCard
end Rows
end Go.Proofs.YtbnmhlienklfpaaGreatDoor
