/- A row's facts, told one by one: what they need of room is needed one by one. -/
import Derived.JoinedOf
set_option linter.all false
namespace Go.Ai
theorem joined_of {P:Program}{f:FuncId}{fn:Func}{s:ChangeSpec}{c:OpenClaim}
  (k1:c.wf (OpenSpec.ofChange s)=true) (k2:laidOutB P=true) (k3:mapsRowed P=true) (k4:(fn.params.all (P.readableRec ·)&&namedTie P c.named s.vars)=true)
  (k5:((c.stops == [])&&(P.stops == [])&&(c.knobs == [])&&(P.stopKnobs == []))=true)
  (k6:(c.inPlace == P.inPlace f)=true) (k7:(c.unfollowed == P.unfollowed f)=true) (k8:(c.recurses == P.recurses f)=true) (k9:(c.named == P.varsNamed f)=true)
  (k10:((c.maps == (fn.params.toList++s.plain.varTypes P).any (P.mapsRec ·))&&(c.ifaces == (fn.params.toList++s.plain.varTypes P).any (P.ifacesRec ·))&&(c.mapsOut == P.mapsAmong fn.resultTypes.toList) &&
   (c.loops == (fn.params.toList++s.plain.varTypes P).any (P.loopsFrom ·))&&(c.wideKeys == (fn.params.toList++s.plain.varTypes P++fn.resultTypes.toList).any (P.wideKeysFrom ·)) &&
   s.vars.all (P.varReadable ·)&&fn.resultTypes.all (fun t=>P.readableRec t&&decide (t<P.types.size))&&(c.ifacesOut == fn.resultTypes.toList.any (P.ifacesRec ·))&&(c.loopsOut == fn.resultTypes.toList.any (P.loopsFrom ·)))=true)
  (k11:(c.plainKeys == P.plainKeys)=true) (k12:c.shortTexts.isNone=true) (k13:P.stopsHeard=true) (k14:P.mayEnter=true) (k15:(c.lifted == P.liftsFinal)=true) (k16:(P.make == some c.make)=true)
  (k17:(c.kinds == (if c.domain.isEmpty then [] else fn.params.toList.map fun t=>match P.underlying t with | some (.int k)=>some k | _=>none))=true) (k18:(c.pinned == c.pinnedBy)=true)
  (k19:((c.veiled == (fn.params.toList++s.plain.varTypes P++fn.resultTypes.toList).any (P.veiledRec ·))&&c.veiledFits P fn.params.toList (fn.params.toList++s.plain.varTypes P++fn.resultTypes.toList))=true) :
  joinedFacts P f fn s c=true:=by
 unfold joinedFacts
 rw [Bool.and_eq_true] at k4 k19
 simp only [Bool.and_eq_true] at k5 k10
 obtain ⟨⟨⟨a1,a2⟩,a3⟩,a4⟩:=k5
 obtain ⟨⟨⟨⟨⟨⟨⟨⟨b1,b2⟩,b3⟩,b4⟩,b5⟩,b6⟩,b7⟩,b8⟩,b9⟩:=k10
 simp only [k1,k2,k3,k4.1,k4.2,a1,a2,a3,a4,k6,k7,k8,k9,b1,b2,b3,b4,b5,b6,b7,b8,b9,k11,k12,k13,k14,k15,k16,k18,k19.1,k19.2,Bool.true_and,Bool.and_true]
 exact k17
end Go.Ai
