/- Facts of the row of ContactNeeds. -/
import Derived.Test.YtgamnnfndidclaaGreatDoorCards
import Derived.Test.YtgamnnfndidclaaGreatDoorAiJoin
import Derived.SevenTiedAt
import Derived.ProofKit
set_option linter.all false
namespace Go.Proofs.YtgamnnfndidclaaGreatDoor.contactNeeds
open Go.ChangeShapes Go.WideShapes Go.ChangeAt Go.RowKit
theorem m1 : Tryz.prog.funcNamed Rows.contactNeedsUptoRow.func = some 13 := by kernel_rfl
theorem m2 : Tryz.prog.mainIs = some (true, "d58050fe13c217d0146636b17af65d1948c4b9e61568d6cd6daf2db39096ef1c".toList) := by kernel_rfl
theorem m3 : true = Tryz.prog.looks [] := by kernel_rfl
theorem m4 : false = Rows.contactNeedsUptoRow.goesBy Tryz.prog := by kernel_rfl
theorem m5 : Rows.contactNeedsUptoRow.wfByText (Rows.OpenSpec.upto Rows.contactNeedsSpec) = true := by kernel_rfl
theorem m6 : ([36, 3].all fun u => !Tryz.prog.wantsStandIn u) = true := by kernel_rfl
end Go.Proofs.YtgamnnfndidclaaGreatDoor.contactNeeds
