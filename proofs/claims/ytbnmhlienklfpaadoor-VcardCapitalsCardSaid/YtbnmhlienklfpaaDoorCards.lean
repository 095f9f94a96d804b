/-
  DERIVED. GIVEN WITH THE SEED: THE CARDS: each row of YtbnmhlienklfpaaDoorRows.lean that lists a variable, with what it lists TIED to the program's text (the seventh form; the later family's looks); each row that meets fmt, with fmt's text TOLD by the authors' own Lean function (tested against real Go, not proved from fmt's source: count such statements apart). THE CARD IS WHAT COUNTS. Prove the row's statement (the work); the ties are given (YtbnmhlienklfpaaDoorTie.lean); close each card by the builder's one call (the guide's Derived/Test/ToyasCard.lean, 'card_holds'). Laid BY PROGRAM, IN A SANDBOX (cutbox-door.mjs). By AI agents, Wed Nov 11 2026. No macro, syntax, notation, axiom, sorry.
-/
import Derived.Test.YtbnmhlienklfpaaDoorRows
import GoSem.ClaimSeven
namespace Go.Proofs.YtbnmhlienklfpaaDoor
namespace Rows

/-- THE TIED CARD OF 'cardexlaw03.FoldBack'. -/
def foldBackCard : Claim7 := { stood := { row := foldBackRow, standIns := [], harness := (true, "c2cc6bfa6e3ac47b86eaf943cfac7edbc174b55b26ceac98641ee945814c76b6"), looks := false }, kinds := [], alts := [], laidByText := true, laidKinds := [.data, .data, .data, .pinned, .pinned], laidTests := true, laidLooks := .later }
def FoldBackCardSaid : Prop := Claim7.holds Tryd.pinned (.plain (OpenSpec.ofChange foldBackSpec)) foldBackCard

/-- THE TIED CARD OF 'cardexlaw03.FoldRefuses'. -/
def foldRefusesCard : Claim7 := { stood := { row := foldRefusesRow, standIns := [], harness := (true, "c2cc6bfa6e3ac47b86eaf943cfac7edbc174b55b26ceac98641ee945814c76b6"), looks := false }, kinds := [], alts := [], laidByText := true, laidKinds := [.data, .data, .data, .pinned, .pinned], laidTests := true, laidLooks := .later }
def FoldRefusesCardSaid : Prop := Claim7.holds Tryd.pinned (.plain (OpenSpec.ofChange foldRefusesSpec)) foldRefusesCard

/-- THE TIED CARD OF 'cardexlaw03.FoldRows'. -/
def foldRowsCard : Claim7 := { stood := { row := foldRowsRow, standIns := [], harness := (true, "c2cc6bfa6e3ac47b86eaf943cfac7edbc174b55b26ceac98641ee945814c76b6"), looks := false }, kinds := [], alts := [], laidByText := true, laidKinds := [.data, .data, .data, .pinned, .pinned], laidTests := true, laidLooks := .later }
def FoldRowsCardSaid : Prop := Claim7.holds Tryd.pinned (.plain (OpenSpec.ofChange foldRowsSpec)) foldRowsCard

/-- THE TIED CARD OF 'cardexlaw03.FoldAnywhere'. -/
def foldAnywhereCard : Claim7 := { stood := { row := foldAnywhereRow, standIns := [], harness := (true, "c2cc6bfa6e3ac47b86eaf943cfac7edbc174b55b26ceac98641ee945814c76b6"), looks := false }, kinds := [], alts := [], laidByText := true, laidKinds := [.data, .data, .data, .pinned, .pinned], laidTests := true, laidLooks := .later }
def FoldAnywhereCardSaid : Prop := Claim7.holds Tryd.pinned (.plain (OpenSpec.ofChange foldAnywhereSpec)) foldAnywhereCard

/-- THE TIED CARD OF 'cardexlaw11.VcardWrong'. -/
def vcardWrongCard : Claim7 := { stood := { row := vcardWrongRow, standIns := [], harness := (true, "c2cc6bfa6e3ac47b86eaf943cfac7edbc174b55b26ceac98641ee945814c76b6"), looks := false }, kinds := [], alts := [], laidByText := true, laidKinds := [.data, .data, .data, .pinned, .pinned], laidTests := true, laidLooks := .later }
def VcardWrongCardSaid : Prop := Claim7.holds Tryd.pinned (.plain (OpenSpec.ofChange vcardWrongSpec)) vcardWrongCard

/-- THE TIED CARD OF 'cardexlaw11.VcardCapitals'. -/
def vcardCapitalsCard : Claim7 := { stood := { row := vcardCapitalsRow, standIns := [], harness := (true, "c2cc6bfa6e3ac47b86eaf943cfac7edbc174b55b26ceac98641ee945814c76b6"), looks := false }, kinds := [], alts := [], laidByText := true, laidKinds := [.data, .data, .data, .pinned, .pinned], laidTests := true, laidLooks := .later }
def VcardCapitalsCardSaid : Prop := Claim7.holds Tryd.pinned (.plain (OpenSpec.ofChange vcardCapitalsSpec)) vcardCapitalsCard

/-- THE TIED CARD OF 'cardexlaw11.VcardBack'. -/
def vcardBackCard : Claim7 := { stood := { row := vcardBackRow, standIns := [], harness := (true, "c2cc6bfa6e3ac47b86eaf943cfac7edbc174b55b26ceac98641ee945814c76b6"), looks := false }, kinds := [], alts := [], laidByText := true, laidKinds := [.data, .data, .data, .pinned, .pinned], laidTests := true, laidLooks := .later }
def VcardBackCardSaid : Prop := Claim7.holds Tryd.pinned (.plain (OpenSpec.ofChange vcardBackSpec)) vcardBackCard

/-- THE TIED CARD OF 'cardexlaw11.VcardMany'. -/
def vcardManyCard : Claim7 := { stood := { row := vcardManyRow, standIns := [], harness := (true, "c2cc6bfa6e3ac47b86eaf943cfac7edbc174b55b26ceac98641ee945814c76b6"), looks := false }, kinds := [], alts := [], laidByText := true, laidKinds := [.data, .data, .data, .pinned, .pinned], laidTests := true, laidLooks := .later }
def VcardManyCardSaid : Prop := Claim7.holds Tryd.pinned (.plain (OpenSpec.ofChange vcardManySpec)) vcardManyCard

/-- THE SECOND FORM's CARD OF 'cardexlaw03.FoldBack'. -/
def foldBackUptoCard : Claim7 := { stood := { row := foldBackUptoRow, standIns := [], harness := (true, "c2cc6bfa6e3ac47b86eaf943cfac7edbc174b55b26ceac98641ee945814c76b6"), looks := false }, kinds := [], alts := [], laidByText := true, laidKinds := [.data, .data, .data, .pinned, .pinned], laidTests := true, laidLooks := .later }
def FoldBackUptoCardSaid : Prop := Claim7.holds Tryd.pinned (.plain (OpenSpec.upto foldBackSpec)) foldBackUptoCard

/-- THE SECOND FORM's CARD OF 'cardexlaw03.FoldRefuses'. -/
def foldRefusesUptoCard : Claim7 := { stood := { row := foldRefusesUptoRow, standIns := [], harness := (true, "c2cc6bfa6e3ac47b86eaf943cfac7edbc174b55b26ceac98641ee945814c76b6"), looks := false }, kinds := [], alts := [], laidByText := true, laidKinds := [.data, .data, .data, .pinned, .pinned], laidTests := true, laidLooks := .later }
def FoldRefusesUptoCardSaid : Prop := Claim7.holds Tryd.pinned (.plain (OpenSpec.upto foldRefusesSpec)) foldRefusesUptoCard

/-- THE SECOND FORM's CARD OF 'cardexlaw03.FoldRows'. -/
def foldRowsUptoCard : Claim7 := { stood := { row := foldRowsUptoRow, standIns := [], harness := (true, "c2cc6bfa6e3ac47b86eaf943cfac7edbc174b55b26ceac98641ee945814c76b6"), looks := false }, kinds := [], alts := [], laidByText := true, laidKinds := [.data, .data, .data, .pinned, .pinned], laidTests := true, laidLooks := .later }
def FoldRowsUptoCardSaid : Prop := Claim7.holds Tryd.pinned (.plain (OpenSpec.upto foldRowsSpec)) foldRowsUptoCard

/-- THE SECOND FORM's CARD OF 'cardexlaw03.FoldAnywhere'. -/
def foldAnywhereUptoCard : Claim7 := { stood := { row := foldAnywhereUptoRow, standIns := [], harness := (true, "c2cc6bfa6e3ac47b86eaf943cfac7edbc174b55b26ceac98641ee945814c76b6"), looks := false }, kinds := [], alts := [], laidByText := true, laidKinds := [.data, .data, .data, .pinned, .pinned], laidTests := true, laidLooks := .later }
def FoldAnywhereUptoCardSaid : Prop := Claim7.holds Tryd.pinned (.plain (OpenSpec.upto foldAnywhereSpec)) foldAnywhereUptoCard

/-- THE SECOND FORM's CARD OF 'cardexlaw11.VcardWrong'. -/
def vcardWrongUptoCard : Claim7 := { stood := { row := vcardWrongUptoRow, standIns := [], harness := (true, "c2cc6bfa6e3ac47b86eaf943cfac7edbc174b55b26ceac98641ee945814c76b6"), looks := false }, kinds := [], alts := [], laidByText := true, laidKinds := [.data, .data, .data, .pinned, .pinned], laidTests := true, laidLooks := .later }
def VcardWrongUptoCardSaid : Prop := Claim7.holds Tryd.pinned (.plain (OpenSpec.upto vcardWrongSpec)) vcardWrongUptoCard

/-- THE SECOND FORM's CARD OF 'cardexlaw11.VcardCapitals'. -/
def vcardCapitalsUptoCard : Claim7 := { stood := { row := vcardCapitalsUptoRow, standIns := [], harness := (true, "c2cc6bfa6e3ac47b86eaf943cfac7edbc174b55b26ceac98641ee945814c76b6"), looks := false }, kinds := [], alts := [], laidByText := true, laidKinds := [.data, .data, .data, .pinned, .pinned], laidTests := true, laidLooks := .later }
def VcardCapitalsUptoCardSaid : Prop := Claim7.holds Tryd.pinned (.plain (OpenSpec.upto vcardCapitalsSpec)) vcardCapitalsUptoCard

/-- THE SECOND FORM's CARD OF 'cardexlaw11.VcardBack'. -/
def vcardBackUptoCard : Claim7 := { stood := { row := vcardBackUptoRow, standIns := [], harness := (true, "c2cc6bfa6e3ac47b86eaf943cfac7edbc174b55b26ceac98641ee945814c76b6"), looks := false }, kinds := [], alts := [], laidByText := true, laidKinds := [.data, .data, .data, .pinned, .pinned], laidTests := true, laidLooks := .later }
def VcardBackUptoCardSaid : Prop := Claim7.holds Tryd.pinned (.plain (OpenSpec.upto vcardBackSpec)) vcardBackUptoCard

/-- THE SECOND FORM's CARD OF 'cardexlaw11.VcardMany'. -/
def vcardManyUptoCard : Claim7 := { stood := { row := vcardManyUptoRow, standIns := [], harness := (true, "c2cc6bfa6e3ac47b86eaf943cfac7edbc174b55b26ceac98641ee945814c76b6"), looks := false }, kinds := [], alts := [], laidByText := true, laidKinds := [.data, .data, .data, .pinned, .pinned], laidTests := true, laidLooks := .later }
def VcardManyUptoCardSaid : Prop := Claim7.holds Tryd.pinned (.plain (OpenSpec.upto vcardManySpec)) vcardManyUptoCard
end Rows
end Go.Proofs.YtbnmhlienklfpaaDoor
