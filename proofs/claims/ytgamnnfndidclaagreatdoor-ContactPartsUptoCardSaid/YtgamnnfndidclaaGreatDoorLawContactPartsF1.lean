/- Facts of the row of ContactParts. -/
import Derived.Test.YtgamnnfndidclaaGreatDoorCards
import Derived.Test.YtgamnnfndidclaaGreatDoorAiJoin
import Derived.SevenTiedAt
import Derived.ProofKit
set_option linter.all false
namespace Go.Proofs.YtgamnnfndidclaaGreatDoor.contactParts
open Go.ChangeShapes Go.WideShapes Go.ChangeAt Go.RowKit
theorem k1 : Rows.contactPartsUptoRow.wf (OpenSpec.ofChange (Rows.OpenSpec.upto Rows.contactPartsSpec).bare) = true := by kernel_rfl
theorem k2 : laidOutB Tryz.prog = true := by kernel_rfl
theorem k3 : mapsRowed Tryz.prog = true := by kernel_rfl
theorem k4 : (Tryz.f9.params.all (Tryz.prog.readableRec ·) && namedTie Tryz.prog Rows.contactPartsUptoRow.named (Rows.OpenSpec.upto Rows.contactPartsSpec).bare.vars) = true := by kernel_rfl
theorem k5 : ((Rows.contactPartsUptoRow.stops == []) && (Tryz.prog.stops == []) && (Rows.contactPartsUptoRow.knobs == []) && (Tryz.prog.stopKnobs == [])) = true := by kernel_rfl
end Go.Proofs.YtgamnnfndidclaaGreatDoor.contactParts

/- Facts of the row of ContactParts. -/
namespace Go.Proofs.YtgamnnfndidclaaGreatDoor.contactParts
open Go.ChangeShapes Go.WideShapes Go.ChangeAt Go.RowKit
theorem k6 : (Rows.contactPartsUptoRow.inPlace == Tryz.prog.inPlace 9) = true := by kernel_rfl
theorem k7 : (Rows.contactPartsUptoRow.unfollowed == Tryz.prog.unfollowed 9) = true := by kernel_rfl
end Go.Proofs.YtgamnnfndidclaaGreatDoor.contactParts
