/- Facts of the row of SheetBack. -/
import Derived.Test.YtgamnnfndidclaaGreatDoorCards
import Derived.Test.YtgamnnfndidclaaGreatDoorBAiJoin
import Derived.SevenTiedAt
import Derived.ProofKit
set_option linter.all false
namespace Go.Proofs.YtgamnnfndidclaaGreatDoor.sheetBack
open Go.ChangeShapes Go.WideShapes Go.ChangeAt Go.RowKit
theorem k1:Rows.sheetBackUptoRow.wf (OpenSpec.ofChange (Rows.OpenSpec.upto Rows.sheetBackSpec).bare)=true:=by kernel_rfl
theorem k2:laidOutB Tryz.prog=true:=by kernel_rfl
theorem k3:mapsRowed Tryz.prog=true:=by kernel_rfl
theorem k4:(Tryz.f5.params.all (Tryz.prog.readableRec ·)&&namedTie Tryz.prog Rows.sheetBackUptoRow.named (Rows.OpenSpec.upto Rows.sheetBackSpec).bare.vars)=true:=by kernel_rfl
theorem k5:((Rows.sheetBackUptoRow.stops == [])&&(Tryz.prog.stops == [])&&(Rows.sheetBackUptoRow.knobs == [])&&(Tryz.prog.stopKnobs == []))=true:=by kernel_rfl
theorem k6:(Rows.sheetBackUptoRow.inPlace == Tryz.prog.inPlace 5)=true:=by kernel_rfl
theorem k7:(Rows.sheetBackUptoRow.unfollowed == Tryz.prog.unfollowed 5)=true:=by kernel_rfl
end Go.Proofs.YtgamnnfndidclaaGreatDoor.sheetBack
