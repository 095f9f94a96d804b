/- Facts of the row of SheetWrong. -/
import Derived.Test.YtgamnnfndidclaaGreatDoorCards
import Derived.Test.YtgamnnfndidclaaGreatDoorAiJoin
import Derived.SevenTiedAt
import Derived.ProofKit
set_option linter.all false
namespace Go.Proofs.YtgamnnfndidclaaGreatDoor.sheetWrong
open Go.ChangeShapes Go.WideShapes Go.ChangeAt Go.RowKit
theorem k13 : Tryz.prog.stopsHeard = true := by kernel_rfl
theorem k14 : Tryz.prog.mayEnter = true := by kernel_rfl
end Go.Proofs.YtgamnnfndidclaaGreatDoor.sheetWrong

/- Facts of the row of SheetWrong. -/
namespace Go.Proofs.YtgamnnfndidclaaGreatDoor.sheetWrong
open Go.ChangeShapes Go.WideShapes Go.ChangeAt Go.RowKit
theorem k15 : (Rows.sheetWrongRow.lifted == Tryz.prog.liftsFinal) = true := by kernel_rfl
theorem k16 : (Tryz.prog.make == some Rows.sheetWrongRow.make) = true := by kernel_rfl
end Go.Proofs.YtgamnnfndidclaaGreatDoor.sheetWrong
