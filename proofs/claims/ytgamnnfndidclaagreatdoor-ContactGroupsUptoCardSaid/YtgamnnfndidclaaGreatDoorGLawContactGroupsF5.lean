/- Facts of the row of ContactGroups. -/
import Derived.Test.YtgamnnfndidclaaGreatDoorCards
import Derived.Test.YtgamnnfndidclaaGreatDoorGAiJoin
import Derived.SevenTiedAt
import Derived.ProofKit
set_option linter.all false
namespace Go.Proofs.YtgamnnfndidclaaGreatDoor.contactGroups
open Go.ChangeShapes Go.WideShapes Go.ChangeAt Go.RowKit
theorem k13:Tryz.prog.stopsHeard=true:=by kernel_rfl
theorem k14:Tryz.prog.mayEnter=true:=by kernel_rfl
theorem k15:(Rows.contactGroupsUptoRow.lifted == Tryz.prog.liftsFinal)=true:=by kernel_rfl
theorem k16:(Tryz.prog.make == some Rows.contactGroupsUptoRow.make)=true:=by kernel_rfl
end Go.Proofs.YtgamnnfndidclaaGreatDoor.contactGroups
