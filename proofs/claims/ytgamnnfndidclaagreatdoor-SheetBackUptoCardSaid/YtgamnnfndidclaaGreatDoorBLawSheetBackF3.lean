/- Facts of the row of SheetBack. -/
import Derived.Test.YtgamnnfndidclaaGreatDoorCards
import Derived.Test.YtgamnnfndidclaaGreatDoorBAiJoin
import Derived.SevenTiedAt
import Derived.ProofKit
set_option linter.all false
namespace Go.Proofs.YtgamnnfndidclaaGreatDoor.sheetBack
open Go.ChangeShapes Go.WideShapes Go.ChangeAt Go.RowKit
theorem k8:(Rows.sheetBackUptoRow.recurses == Tryz.prog.recurses 5)=true:=by kernel_rfl
theorem k9:(Rows.sheetBackUptoRow.named == Tryz.prog.varsNamed 5)=true:=by kernel_rfl
theorem k10:((Rows.sheetBackUptoRow.maps == (Tryz.f5.params.toList++(Rows.OpenSpec.upto Rows.sheetBackSpec).bare.plain.varTypes Tryz.prog).any (Tryz.prog.mapsRec ·))&&(Rows.sheetBackUptoRow.ifaces == (Tryz.f5.params.toList++(Rows.OpenSpec.upto Rows.sheetBackSpec).bare.plain.varTypes Tryz.prog).any (Tryz.prog.ifacesRec ·))&&(Rows.sheetBackUptoRow.mapsOut == Tryz.prog.mapsAmong Tryz.f5.resultTypes.toList)&&(Rows.sheetBackUptoRow.loops == (Tryz.f5.params.toList++(Rows.OpenSpec.upto Rows.sheetBackSpec).bare.plain.varTypes Tryz.prog).any (Tryz.prog.loopsFrom ·))&&(Rows.sheetBackUptoRow.wideKeys == (Tryz.f5.params.toList++(Rows.OpenSpec.upto Rows.sheetBackSpec).bare.plain.varTypes Tryz.prog++Tryz.f5.resultTypes.toList).any (Tryz.prog.wideKeysFrom ·))&&(Rows.OpenSpec.upto Rows.sheetBackSpec).bare.vars.all (Tryz.prog.varReadable ·)&&Tryz.f5.resultTypes.all (fun t=>Tryz.prog.readableRec t&&decide (t<Tryz.prog.types.size))&&(Rows.sheetBackUptoRow.ifacesOut == Tryz.f5.resultTypes.toList.any (Tryz.prog.ifacesRec ·))&&(Rows.sheetBackUptoRow.loopsOut == Tryz.f5.resultTypes.toList.any (Tryz.prog.loopsFrom ·)))=true:=by kernel_rfl
theorem k11:(Rows.sheetBackUptoRow.plainKeys == Tryz.prog.plainKeys)=true:=by kernel_rfl
theorem k19:((Rows.sheetBackUptoRow.veiled == (Tryz.f5.params.toList++(Rows.OpenSpec.upto Rows.sheetBackSpec).bare.plain.varTypes Tryz.prog++Tryz.f5.resultTypes.toList).any (Tryz.prog.veiledRec ·))&&Rows.sheetBackUptoRow.veiledFits Tryz.prog Tryz.f5.params.toList (Tryz.f5.params.toList++(Rows.OpenSpec.upto Rows.sheetBackSpec).bare.plain.varTypes Tryz.prog++Tryz.f5.resultTypes.toList))=true:=by kernel_rfl
end Go.Proofs.YtgamnnfndidclaaGreatDoor.sheetBack
