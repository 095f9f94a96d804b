/- Facts of the row of SheetWrong. -/
import Derived.Test.YtgamnnfndidclaaGreatDoorCards
import Derived.Test.YtgamnnfndidclaaGreatDoorAiJoin
import Derived.SevenTiedAt
import Derived.ProofKit
set_option linter.all false
namespace Go.Proofs.YtgamnnfndidclaaGreatDoor.sheetWrong
open Go.ChangeShapes Go.WideShapes Go.ChangeAt Go.RowKit
theorem k1 : Rows.sheetWrongRow.wf (OpenSpec.ofChange Rows.sheetWrongSpec) = true := by kernel_rfl
theorem k2 : laidOutB Tryz.prog = true := by kernel_rfl
theorem k3 : mapsRowed Tryz.prog = true := by kernel_rfl
theorem k4 : (Tryz.f3.params.all (Tryz.prog.readableRec ·) && namedTie Tryz.prog Rows.sheetWrongRow.named Rows.sheetWrongSpec.vars) = true := by kernel_rfl
theorem k5 : ((Rows.sheetWrongRow.stops == []) && (Tryz.prog.stops == []) && (Rows.sheetWrongRow.knobs == []) && (Tryz.prog.stopKnobs == [])) = true := by kernel_rfl
end Go.Proofs.YtgamnnfndidclaaGreatDoor.sheetWrong

/- Facts of the row of SheetWrong. -/
namespace Go.Proofs.YtgamnnfndidclaaGreatDoor.sheetWrong
open Go.ChangeShapes Go.WideShapes Go.ChangeAt Go.RowKit
theorem k6 : (Rows.sheetWrongRow.inPlace == Tryz.prog.inPlace 3) = true := by kernel_rfl
theorem k7 : (Rows.sheetWrongRow.unfollowed == Tryz.prog.unfollowed 3) = true := by kernel_rfl
end Go.Proofs.YtgamnnfndidclaaGreatDoor.sheetWrong
