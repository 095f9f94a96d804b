/- Facts of the row of ContactNeeds. -/
import Derived.Test.YtgamnnfndidclaaGreatDoorCards
import Derived.Test.YtgamnnfndidclaaGreatDoorAiJoin
import Derived.SevenTiedAt
import Derived.ProofKit
set_option linter.all false
namespace Go.Proofs.YtgamnnfndidclaaGreatDoor.contactNeeds
open Go.ChangeShapes Go.WideShapes Go.ChangeAt Go.RowKit
theorem k1 : Rows.contactNeedsUptoRow.wf (OpenSpec.ofChange (Rows.OpenSpec.upto Rows.contactNeedsSpec).bare) = true := by kernel_rfl
theorem k2 : laidOutB Tryz.prog = true := by kernel_rfl
theorem k3 : mapsRowed Tryz.prog = true := by kernel_rfl
theorem k4 : (Tryz.f13.params.all (Tryz.prog.readableRec ·) && namedTie Tryz.prog Rows.contactNeedsUptoRow.named (Rows.OpenSpec.upto Rows.contactNeedsSpec).bare.vars) = true := by kernel_rfl
theorem k5 : ((Rows.contactNeedsUptoRow.stops == []) && (Tryz.prog.stops == []) && (Rows.contactNeedsUptoRow.knobs == []) && (Tryz.prog.stopKnobs == [])) = true := by kernel_rfl
theorem k6 : (Rows.contactNeedsUptoRow.inPlace == Tryz.prog.inPlace 13) = true := by kernel_rfl
theorem k7 : (Rows.contactNeedsUptoRow.unfollowed == Tryz.prog.unfollowed 13) = true := by kernel_rfl
end Go.Proofs.YtgamnnfndidclaaGreatDoor.contactNeeds
