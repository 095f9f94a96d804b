/- Facts of the row of ContactGroups. -/
import Derived.Test.YtgamnnfndidclaaGreatDoorCards
import Derived.Test.YtgamnnfndidclaaGreatDoorGAiJoin
import Derived.SevenTiedAt
import Derived.ProofKit
set_option linter.all false
namespace Go.Proofs.YtgamnnfndidclaaGreatDoor.contactGroups
open Go.ChangeShapes Go.WideShapes Go.ChangeAt Go.RowKit
theorem k8:(Rows.contactGroupsUptoRow.recurses == Tryz.prog.recurses 8)=true:=by kernel_rfl
theorem k9:(Rows.contactGroupsUptoRow.named == Tryz.prog.varsNamed 8)=true:=by kernel_rfl
theorem k10:((Rows.contactGroupsUptoRow.maps == (Tryz.f8.params.toList++(Rows.OpenSpec.upto Rows.contactGroupsSpec).bare.plain.varTypes Tryz.prog).any (Tryz.prog.mapsRec ·))&&(Rows.contactGroupsUptoRow.ifaces == (Tryz.f8.params.toList++(Rows.OpenSpec.upto Rows.contactGroupsSpec).bare.plain.varTypes Tryz.prog).any (Tryz.prog.ifacesRec ·))&&(Rows.contactGroupsUptoRow.mapsOut == Tryz.prog.mapsAmong Tryz.f8.resultTypes.toList)&&(Rows.contactGroupsUptoRow.loops == (Tryz.f8.params.toList++(Rows.OpenSpec.upto Rows.contactGroupsSpec).bare.plain.varTypes Tryz.prog).any (Tryz.prog.loopsFrom ·))&&(Rows.contactGroupsUptoRow.wideKeys == (Tryz.f8.params.toList++(Rows.OpenSpec.upto Rows.contactGroupsSpec).bare.plain.varTypes Tryz.prog++Tryz.f8.resultTypes.toList).any (Tryz.prog.wideKeysFrom ·))&&(Rows.OpenSpec.upto Rows.contactGroupsSpec).bare.vars.all (Tryz.prog.varReadable ·)&&Tryz.f8.resultTypes.all (fun t=>Tryz.prog.readableRec t&&decide (t<Tryz.prog.types.size))&&(Rows.contactGroupsUptoRow.ifacesOut == Tryz.f8.resultTypes.toList.any (Tryz.prog.ifacesRec ·))&&(Rows.contactGroupsUptoRow.loopsOut == Tryz.f8.resultTypes.toList.any (Tryz.prog.loopsFrom ·)))=true:=by kernel_rfl
theorem k11:(Rows.contactGroupsUptoRow.plainKeys == Tryz.prog.plainKeys)=true:=by kernel_rfl
theorem k19:((Rows.contactGroupsUptoRow.veiled == (Tryz.f8.params.toList++(Rows.OpenSpec.upto Rows.contactGroupsSpec).bare.plain.varTypes Tryz.prog++Tryz.f8.resultTypes.toList).any (Tryz.prog.veiledRec ·))&&Rows.contactGroupsUptoRow.veiledFits Tryz.prog Tryz.f8.params.toList (Tryz.f8.params.toList++(Rows.OpenSpec.upto Rows.contactGroupsSpec).bare.plain.varTypes Tryz.prog++Tryz.f8.resultTypes.toList))=true:=by kernel_rfl
end Go.Proofs.YtgamnnfndidclaaGreatDoor.contactGroups
