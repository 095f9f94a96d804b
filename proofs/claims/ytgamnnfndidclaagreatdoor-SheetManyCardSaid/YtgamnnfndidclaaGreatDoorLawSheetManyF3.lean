/- Facts of the row of SheetMany. -/
import Derived.Test.YtgamnnfndidclaaGreatDoorCards
import Derived.Test.YtgamnnfndidclaaGreatDoorAiJoin
import Derived.SevenTiedAt
import Derived.ProofKit
set_option linter.all false
namespace Go.Proofs.YtgamnnfndidclaaGreatDoor.sheetMany
open Go.ChangeShapes Go.WideShapes Go.ChangeAt Go.RowKit
theorem k8 : (Rows.sheetManyRow.recurses == Tryz.prog.recurses 7) = true := by kernel_rfl
theorem k9 : (Rows.sheetManyRow.named == Tryz.prog.varsNamed 7) = true := by kernel_rfl
end Go.Proofs.YtgamnnfndidclaaGreatDoor.sheetMany

/- Facts of the row of SheetMany. -/
namespace Go.Proofs.YtgamnnfndidclaaGreatDoor.sheetMany
open Go.ChangeShapes Go.WideShapes Go.ChangeAt Go.RowKit
theorem k10 : ((Rows.sheetManyRow.maps == (Tryz.f7.params.toList ++ Rows.sheetManySpec.plain.varTypes Tryz.prog).any (Tryz.prog.mapsRec ·)) && (Rows.sheetManyRow.ifaces == (Tryz.f7.params.toList ++ Rows.sheetManySpec.plain.varTypes Tryz.prog).any (Tryz.prog.ifacesRec ·)) && (Rows.sheetManyRow.mapsOut == Tryz.prog.mapsAmong Tryz.f7.resultTypes.toList) && (Rows.sheetManyRow.loops == (Tryz.f7.params.toList ++ Rows.sheetManySpec.plain.varTypes Tryz.prog).any (Tryz.prog.loopsFrom ·)) && (Rows.sheetManyRow.wideKeys == (Tryz.f7.params.toList ++ Rows.sheetManySpec.plain.varTypes Tryz.prog ++ Tryz.f7.resultTypes.toList).any (Tryz.prog.wideKeysFrom ·)) && Rows.sheetManySpec.vars.all (Tryz.prog.varReadable ·) && Tryz.f7.resultTypes.all (fun t => Tryz.prog.readableRec t && decide (t < Tryz.prog.types.size)) && (Rows.sheetManyRow.ifacesOut == Tryz.f7.resultTypes.toList.any (Tryz.prog.ifacesRec ·)) && (Rows.sheetManyRow.loopsOut == Tryz.f7.resultTypes.toList.any (Tryz.prog.loopsFrom ·))) = true := by kernel_rfl
theorem k11 : (Rows.sheetManyRow.plainKeys == Tryz.prog.plainKeys) = true := by kernel_rfl
theorem k19 : ((Rows.sheetManyRow.veiled == (Tryz.f7.params.toList ++ Rows.sheetManySpec.plain.varTypes Tryz.prog ++ Tryz.f7.resultTypes.toList).any (Tryz.prog.veiledRec ·)) && Rows.sheetManyRow.veiledFits Tryz.prog Tryz.f7.params.toList (Tryz.f7.params.toList ++ Rows.sheetManySpec.plain.varTypes Tryz.prog ++ Tryz.f7.resultTypes.toList)) = true := by kernel_rfl
end Go.Proofs.YtgamnnfndidclaaGreatDoor.sheetMany
