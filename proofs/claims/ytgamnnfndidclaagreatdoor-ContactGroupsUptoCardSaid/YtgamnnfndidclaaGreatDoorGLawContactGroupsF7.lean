/- Facts of the row of ContactGroups. -/
import Derived.Test.YtgamnnfndidclaaGreatDoorCards
import Derived.Test.YtgamnnfndidclaaGreatDoorGAiJoin
import Derived.SevenTiedAt
import Derived.ProofKit
set_option linter.all false
namespace Go.Proofs.YtgamnnfndidclaaGreatDoor.contactGroups
open Go.ChangeShapes Go.WideShapes Go.ChangeAt Go.RowKit
theorem m1:Tryz.prog.funcNamed Rows.contactGroupsUptoRow.func=some 8:=by kernel_rfl
theorem m2 : Tryz.prog.mainIs = some (true, "d58050fe13c217d0146636b17af65d1948c4b9e61568d6cd6daf2db39096ef1c".toList) := by kernel_rfl
theorem m3:true=Tryz.prog.looks []:=by kernel_rfl
theorem m4:false=Rows.contactGroupsUptoRow.goesBy Tryz.prog:=by kernel_rfl
theorem m5:Rows.contactGroupsUptoRow.wfByText (Rows.OpenSpec.upto Rows.contactGroupsSpec)=true:=by kernel_rfl
theorem m6:([23,3].all fun u => !Tryz.prog.wantsStandIn u)=true:=by kernel_rfl
end Go.Proofs.YtgamnnfndidclaaGreatDoor.contactGroups
