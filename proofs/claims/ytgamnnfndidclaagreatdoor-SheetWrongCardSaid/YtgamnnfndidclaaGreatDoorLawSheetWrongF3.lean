/- Facts of the row of SheetWrong. -/
import Derived.Test.YtgamnnfndidclaaGreatDoorCards
import Derived.Test.YtgamnnfndidclaaGreatDoorAiJoin
import Derived.SevenTiedAt
import Derived.ProofKit
set_option linter.all false
namespace Go.Proofs.YtgamnnfndidclaaGreatDoor.sheetWrong
open Go.ChangeShapes Go.WideShapes Go.ChangeAt Go.RowKit
theorem k8 : (Rows.sheetWrongRow.recurses == Tryz.prog.recurses 3) = true := by kernel_rfl
theorem k9 : (Rows.sheetWrongRow.named == Tryz.prog.varsNamed 3) = true := by kernel_rfl
end Go.Proofs.YtgamnnfndidclaaGreatDoor.sheetWrong

/- Facts of the row of SheetWrong. -/
namespace Go.Proofs.YtgamnnfndidclaaGreatDoor.sheetWrong
open Go.ChangeShapes Go.WideShapes Go.ChangeAt Go.RowKit
theorem k10 : ((Rows.sheetWrongRow.maps == (Tryz.f3.params.toList ++ Rows.sheetWrongSpec.plain.varTypes Tryz.prog).any (Tryz.prog.mapsRec ·)) && (Rows.sheetWrongRow.ifaces == (Tryz.f3.params.toList ++ Rows.sheetWrongSpec.plain.varTypes Tryz.prog).any (Tryz.prog.ifacesRec ·)) && (Rows.sheetWrongRow.mapsOut == Tryz.prog.mapsAmong Tryz.f3.resultTypes.toList) && (Rows.sheetWrongRow.loops == (Tryz.f3.params.toList ++ Rows.sheetWrongSpec.plain.varTypes Tryz.prog).any (Tryz.prog.loopsFrom ·)) && (Rows.sheetWrongRow.wideKeys == (Tryz.f3.params.toList ++ Rows.sheetWrongSpec.plain.varTypes Tryz.prog ++ Tryz.f3.resultTypes.toList).any (Tryz.prog.wideKeysFrom ·)) && Rows.sheetWrongSpec.vars.all (Tryz.prog.varReadable ·) && Tryz.f3.resultTypes.all (fun t => Tryz.prog.readableRec t && decide (t < Tryz.prog.types.size)) && (Rows.sheetWrongRow.ifacesOut == Tryz.f3.resultTypes.toList.any (Tryz.prog.ifacesRec ·)) && (Rows.sheetWrongRow.loopsOut == Tryz.f3.resultTypes.toList.any (Tryz.prog.loopsFrom ·))) = true := by kernel_rfl
theorem k11 : (Rows.sheetWrongRow.plainKeys == Tryz.prog.plainKeys) = true := by kernel_rfl
theorem k19 : ((Rows.sheetWrongRow.veiled == (Tryz.f3.params.toList ++ Rows.sheetWrongSpec.plain.varTypes Tryz.prog ++ Tryz.f3.resultTypes.toList).any (Tryz.prog.veiledRec ·)) && Rows.sheetWrongRow.veiledFits Tryz.prog Tryz.f3.params.toList (Tryz.f3.params.toList ++ Rows.sheetWrongSpec.plain.varTypes Tryz.prog ++ Tryz.f3.resultTypes.toList)) = true := by kernel_rfl
end Go.Proofs.YtgamnnfndidclaaGreatDoor.sheetWrong
