/- Facts of the row of SheetColumns. -/
import Derived.Test.YtgamnnfndidclaaGreatDoorCards
import Derived.Test.YtgamnnfndidclaaGreatDoorCAiJoin
import Derived.SevenTiedAt
import Derived.ProofKit
set_option linter.all false
namespace Go.Proofs.YtgamnnfndidclaaGreatDoor.sheetColumns
open Go.ChangeShapes Go.WideShapes Go.ChangeAt Go.RowKit
theorem k8:(Rows.sheetColumnsUptoRow.recurses == Tryz.prog.recurses 6)=true:=by kernel_rfl
theorem k9:(Rows.sheetColumnsUptoRow.named == Tryz.prog.varsNamed 6)=true:=by kernel_rfl
theorem k10:((Rows.sheetColumnsUptoRow.maps == (Tryz.f6.params.toList++(Rows.OpenSpec.upto Rows.sheetColumnsSpec).bare.plain.varTypes Tryz.prog).any (Tryz.prog.mapsRec ·))&&(Rows.sheetColumnsUptoRow.ifaces == (Tryz.f6.params.toList++(Rows.OpenSpec.upto Rows.sheetColumnsSpec).bare.plain.varTypes Tryz.prog).any (Tryz.prog.ifacesRec ·))&&(Rows.sheetColumnsUptoRow.mapsOut == Tryz.prog.mapsAmong Tryz.f6.resultTypes.toList)&&(Rows.sheetColumnsUptoRow.loops == (Tryz.f6.params.toList++(Rows.OpenSpec.upto Rows.sheetColumnsSpec).bare.plain.varTypes Tryz.prog).any (Tryz.prog.loopsFrom ·))&&(Rows.sheetColumnsUptoRow.wideKeys == (Tryz.f6.params.toList++(Rows.OpenSpec.upto Rows.sheetColumnsSpec).bare.plain.varTypes Tryz.prog++Tryz.f6.resultTypes.toList).any (Tryz.prog.wideKeysFrom ·))&&(Rows.OpenSpec.upto Rows.sheetColumnsSpec).bare.vars.all (Tryz.prog.varReadable ·)&&Tryz.f6.resultTypes.all (fun t=>Tryz.prog.readableRec t&&decide (t<Tryz.prog.types.size))&&(Rows.sheetColumnsUptoRow.ifacesOut == Tryz.f6.resultTypes.toList.any (Tryz.prog.ifacesRec ·))&&(Rows.sheetColumnsUptoRow.loopsOut == Tryz.f6.resultTypes.toList.any (Tryz.prog.loopsFrom ·)))=true:=by kernel_rfl
theorem k11:(Rows.sheetColumnsUptoRow.plainKeys == Tryz.prog.plainKeys)=true:=by kernel_rfl
theorem k19:((Rows.sheetColumnsUptoRow.veiled == (Tryz.f6.params.toList++(Rows.OpenSpec.upto Rows.sheetColumnsSpec).bare.plain.varTypes Tryz.prog++Tryz.f6.resultTypes.toList).any (Tryz.prog.veiledRec ·))&&Rows.sheetColumnsUptoRow.veiledFits Tryz.prog Tryz.f6.params.toList (Tryz.f6.params.toList++(Rows.OpenSpec.upto Rows.sheetColumnsSpec).bare.plain.varTypes Tryz.prog++Tryz.f6.resultTypes.toList))=true:=by kernel_rfl
end Go.Proofs.YtgamnnfndidclaaGreatDoor.sheetColumns
