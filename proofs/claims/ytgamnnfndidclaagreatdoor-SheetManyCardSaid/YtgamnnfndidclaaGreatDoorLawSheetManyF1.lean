/- Facts of the row of SheetMany. -/
import Derived.Test.YtgamnnfndidclaaGreatDoorCards
import Derived.Test.YtgamnnfndidclaaGreatDoorAiJoin
import Derived.SevenTiedAt
import Derived.ProofKit
set_option linter.all false
namespace Go.Proofs.YtgamnnfndidclaaGreatDoor.sheetMany
open Go.ChangeShapes Go.WideShapes Go.ChangeAt Go.RowKit
theorem k1 : Rows.sheetManyRow.wf (OpenSpec.ofChange Rows.sheetManySpec) = true := by kernel_rfl
theorem k2 : laidOutB Tryz.prog = true := by kernel_rfl
theorem k3 : mapsRowed Tryz.prog = true := by kernel_rfl
theorem k4 : (Tryz.f7.params.all (Tryz.prog.readableRec ·) && namedTie Tryz.prog Rows.sheetManyRow.named Rows.sheetManySpec.vars) = true := by kernel_rfl
theorem k5 : ((Rows.sheetManyRow.stops == []) && (Tryz.prog.stops == []) && (Rows.sheetManyRow.knobs == []) && (Tryz.prog.stopKnobs == [])) = true := by kernel_rfl
end Go.Proofs.YtgamnnfndidclaaGreatDoor.sheetMany

/- Facts of the row of SheetMany. -/
namespace Go.Proofs.YtgamnnfndidclaaGreatDoor.sheetMany
open Go.ChangeShapes Go.WideShapes Go.ChangeAt Go.RowKit
theorem k6 : (Rows.sheetManyRow.inPlace == Tryz.prog.inPlace 7) = true := by kernel_rfl
theorem k7 : (Rows.sheetManyRow.unfollowed == Tryz.prog.unfollowed 7) = true := by kernel_rfl
end Go.Proofs.YtgamnnfndidclaaGreatDoor.sheetMany
