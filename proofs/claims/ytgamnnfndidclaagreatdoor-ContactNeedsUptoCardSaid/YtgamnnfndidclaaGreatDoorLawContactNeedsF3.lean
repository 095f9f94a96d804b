/- Facts of the row of ContactNeeds. -/
import Derived.Test.YtgamnnfndidclaaGreatDoorCards
import Derived.Test.YtgamnnfndidclaaGreatDoorAiJoin
import Derived.SevenTiedAt
import Derived.ProofKit
set_option linter.all false
namespace Go.Proofs.YtgamnnfndidclaaGreatDoor.contactNeeds
open Go.ChangeShapes Go.WideShapes Go.ChangeAt Go.RowKit
theorem k8 : (Rows.contactNeedsUptoRow.recurses == Tryz.prog.recurses 13) = true := by kernel_rfl
theorem k9 : (Rows.contactNeedsUptoRow.named == Tryz.prog.varsNamed 13) = true := by kernel_rfl
theorem k10 : ((Rows.contactNeedsUptoRow.maps == (Tryz.f13.params.toList ++ (Rows.OpenSpec.upto Rows.contactNeedsSpec).bare.plain.varTypes Tryz.prog).any (Tryz.prog.mapsRec ·)) && (Rows.contactNeedsUptoRow.ifaces == (Tryz.f13.params.toList ++ (Rows.OpenSpec.upto Rows.contactNeedsSpec).bare.plain.varTypes Tryz.prog).any (Tryz.prog.ifacesRec ·)) && (Rows.contactNeedsUptoRow.mapsOut == Tryz.prog.mapsAmong Tryz.f13.resultTypes.toList) && (Rows.contactNeedsUptoRow.loops == (Tryz.f13.params.toList ++ (Rows.OpenSpec.upto Rows.contactNeedsSpec).bare.plain.varTypes Tryz.prog).any (Tryz.prog.loopsFrom ·)) && (Rows.contactNeedsUptoRow.wideKeys == (Tryz.f13.params.toList ++ (Rows.OpenSpec.upto Rows.contactNeedsSpec).bare.plain.varTypes Tryz.prog ++ Tryz.f13.resultTypes.toList).any (Tryz.prog.wideKeysFrom ·)) && (Rows.OpenSpec.upto Rows.contactNeedsSpec).bare.vars.all (Tryz.prog.varReadable ·) && Tryz.f13.resultTypes.all (fun t => Tryz.prog.readableRec t && decide (t < Tryz.prog.types.size)) && (Rows.contactNeedsUptoRow.ifacesOut == Tryz.f13.resultTypes.toList.any (Tryz.prog.ifacesRec ·)) && (Rows.contactNeedsUptoRow.loopsOut == Tryz.f13.resultTypes.toList.any (Tryz.prog.loopsFrom ·))) = true := by kernel_rfl
theorem k11 : (Rows.contactNeedsUptoRow.plainKeys == Tryz.prog.plainKeys) = true := by kernel_rfl
theorem k19 : ((Rows.contactNeedsUptoRow.veiled == (Tryz.f13.params.toList ++ (Rows.OpenSpec.upto Rows.contactNeedsSpec).bare.plain.varTypes Tryz.prog ++ Tryz.f13.resultTypes.toList).any (Tryz.prog.veiledRec ·)) && Rows.contactNeedsUptoRow.veiledFits Tryz.prog Tryz.f13.params.toList (Tryz.f13.params.toList ++ (Rows.OpenSpec.upto Rows.contactNeedsSpec).bare.plain.varTypes Tryz.prog ++ Tryz.f13.resultTypes.toList)) = true := by kernel_rfl
end Go.Proofs.YtgamnnfndidclaaGreatDoor.contactNeeds
