/- Facts of the row of SheetColumns. -/
import Derived.Test.YtgamnnfndidclaaGreatDoorCards
import Derived.Test.YtgamnnfndidclaaGreatDoorCAiJoin
import Derived.SevenTiedAt
import Derived.ProofKit
set_option linter.all false
namespace Go.Proofs.YtgamnnfndidclaaGreatDoor.sheetColumns
open Go.ChangeShapes Go.WideShapes Go.ChangeAt Go.RowKit
theorem k1:Rows.sheetColumnsUptoRow.wf (OpenSpec.ofChange (Rows.OpenSpec.upto Rows.sheetColumnsSpec).bare)=true:=by kernel_rfl
theorem k2:laidOutB Tryz.prog=true:=by kernel_rfl
theorem k3:mapsRowed Tryz.prog=true:=by kernel_rfl
theorem k4:(Tryz.f6.params.all (Tryz.prog.readableRec ·)&&namedTie Tryz.prog Rows.sheetColumnsUptoRow.named (Rows.OpenSpec.upto Rows.sheetColumnsSpec).bare.vars)=true:=by kernel_rfl
theorem k5:((Rows.sheetColumnsUptoRow.stops == [])&&(Tryz.prog.stops == [])&&(Rows.sheetColumnsUptoRow.knobs == [])&&(Tryz.prog.stopKnobs == []))=true:=by kernel_rfl
theorem k6:(Rows.sheetColumnsUptoRow.inPlace == Tryz.prog.inPlace 6)=true:=by kernel_rfl
theorem k7:(Rows.sheetColumnsUptoRow.unfollowed == Tryz.prog.unfollowed 6)=true:=by kernel_rfl
end Go.Proofs.YtgamnnfndidclaaGreatDoor.sheetColumns
