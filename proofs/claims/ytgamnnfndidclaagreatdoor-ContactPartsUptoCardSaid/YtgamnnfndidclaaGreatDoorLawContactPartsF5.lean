/- Facts of the row of ContactParts. -/
import Derived.Test.YtgamnnfndidclaaGreatDoorCards
import Derived.Test.YtgamnnfndidclaaGreatDoorAiJoin
import Derived.SevenTiedAt
import Derived.ProofKit
set_option linter.all false
namespace Go.Proofs.YtgamnnfndidclaaGreatDoor.contactParts
open Go.ChangeShapes Go.WideShapes Go.ChangeAt Go.RowKit
theorem k13 : Tryz.prog.stopsHeard = true := by kernel_rfl
theorem k14 : Tryz.prog.mayEnter = true := by kernel_rfl
end Go.Proofs.YtgamnnfndidclaaGreatDoor.contactParts

/- Facts of the row of ContactParts. -/
namespace Go.Proofs.YtgamnnfndidclaaGreatDoor.contactParts
open Go.ChangeShapes Go.WideShapes Go.ChangeAt Go.RowKit
theorem k15 : (Rows.contactPartsUptoRow.lifted == Tryz.prog.liftsFinal) = true := by kernel_rfl
theorem k16 : (Tryz.prog.make == some Rows.contactPartsUptoRow.make) = true := by kernel_rfl
end Go.Proofs.YtgamnnfndidclaaGreatDoor.contactParts
