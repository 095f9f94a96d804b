/- Facts of the row of ContactParts. -/
import Derived.Test.YtgamnnfndidclaaGreatDoorCards
import Derived.Test.YtgamnnfndidclaaGreatDoorAiJoin
import Derived.SevenTiedAt
import Derived.ProofKit
set_option linter.all false
namespace Go.Proofs.YtgamnnfndidclaaGreatDoor.contactParts
open Go.ChangeShapes Go.WideShapes Go.ChangeAt Go.RowKit
theorem k8 : (Rows.contactPartsUptoRow.recurses == Tryz.prog.recurses 9) = true := by kernel_rfl
theorem k9 : (Rows.contactPartsUptoRow.named == Tryz.prog.varsNamed 9) = true := by kernel_rfl
end Go.Proofs.YtgamnnfndidclaaGreatDoor.contactParts

/- Facts of the row of ContactParts. -/
namespace Go.Proofs.YtgamnnfndidclaaGreatDoor.contactParts
open Go.ChangeShapes Go.WideShapes Go.ChangeAt Go.RowKit
theorem k10 : ((Rows.contactPartsUptoRow.maps == (Tryz.f9.params.toList ++ (Rows.OpenSpec.upto Rows.contactPartsSpec).bare.plain.varTypes Tryz.prog).any (Tryz.prog.mapsRec ·)) && (Rows.contactPartsUptoRow.ifaces == (Tryz.f9.params.toList ++ (Rows.OpenSpec.upto Rows.contactPartsSpec).bare.plain.varTypes Tryz.prog).any (Tryz.prog.ifacesRec ·)) && (Rows.contactPartsUptoRow.mapsOut == Tryz.prog.mapsAmong Tryz.f9.resultTypes.toList) && (Rows.contactPartsUptoRow.loops == (Tryz.f9.params.toList ++ (Rows.OpenSpec.upto Rows.contactPartsSpec).bare.plain.varTypes Tryz.prog).any (Tryz.prog.loopsFrom ·)) && (Rows.contactPartsUptoRow.wideKeys == (Tryz.f9.params.toList ++ (Rows.OpenSpec.upto Rows.contactPartsSpec).bare.plain.varTypes Tryz.prog ++ Tryz.f9.resultTypes.toList).any (Tryz.prog.wideKeysFrom ·)) && (Rows.OpenSpec.upto Rows.contactPartsSpec).bare.vars.all (Tryz.prog.varReadable ·) && Tryz.f9.resultTypes.all (fun t => Tryz.prog.readableRec t && decide (t < Tryz.prog.types.size)) && (Rows.contactPartsUptoRow.ifacesOut == Tryz.f9.resultTypes.toList.any (Tryz.prog.ifacesRec ·)) && (Rows.contactPartsUptoRow.loopsOut == Tryz.f9.resultTypes.toList.any (Tryz.prog.loopsFrom ·))) = true := by kernel_rfl
theorem k11 : (Rows.contactPartsUptoRow.plainKeys == Tryz.prog.plainKeys) = true := by kernel_rfl
theorem k19 : ((Rows.contactPartsUptoRow.veiled == (Tryz.f9.params.toList ++ (Rows.OpenSpec.upto Rows.contactPartsSpec).bare.plain.varTypes Tryz.prog ++ Tryz.f9.resultTypes.toList).any (Tryz.prog.veiledRec ·)) && Rows.contactPartsUptoRow.veiledFits Tryz.prog Tryz.f9.params.toList (Tryz.f9.params.toList ++ (Rows.OpenSpec.upto Rows.contactPartsSpec).bare.plain.varTypes Tryz.prog ++ Tryz.f9.resultTypes.toList)) = true := by kernel_rfl
end Go.Proofs.YtgamnnfndidclaaGreatDoor.contactParts
