/- Facts of the row of ContactGroups. -/
import Derived.Test.YtgamnnfndidclaaGreatDoorCards
import Derived.Test.YtgamnnfndidclaaGreatDoorGAiJoin
import Derived.SevenTiedAt
import Derived.ProofKit
set_option linter.all false
namespace Go.Proofs.YtgamnnfndidclaaGreatDoor.contactGroups
open Go.ChangeShapes Go.WideShapes Go.ChangeAt Go.RowKit
theorem k1:Rows.contactGroupsUptoRow.wf (OpenSpec.ofChange (Rows.OpenSpec.upto Rows.contactGroupsSpec).bare)=true:=by kernel_rfl
theorem k2:laidOutB Tryz.prog=true:=by kernel_rfl
theorem k3:mapsRowed Tryz.prog=true:=by kernel_rfl
theorem k4:(Tryz.f8.params.all (Tryz.prog.readableRec ·)&&namedTie Tryz.prog Rows.contactGroupsUptoRow.named (Rows.OpenSpec.upto Rows.contactGroupsSpec).bare.vars)=true:=by kernel_rfl
theorem k5:((Rows.contactGroupsUptoRow.stops == [])&&(Tryz.prog.stops == [])&&(Rows.contactGroupsUptoRow.knobs == [])&&(Tryz.prog.stopKnobs == []))=true:=by kernel_rfl
theorem k6:(Rows.contactGroupsUptoRow.inPlace == Tryz.prog.inPlace 8)=true:=by kernel_rfl
theorem k7:(Rows.contactGroupsUptoRow.unfollowed == Tryz.prog.unfollowed 8)=true:=by kernel_rfl
end Go.Proofs.YtgamnnfndidclaaGreatDoor.contactGroups
