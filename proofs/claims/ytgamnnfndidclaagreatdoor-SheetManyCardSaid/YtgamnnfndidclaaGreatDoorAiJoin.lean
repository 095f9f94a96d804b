/- What comes in, as plain data: numbers, texts, rows of them, structs of them. -/
import Derived.Test.YtgamnnfndidclaaGreatDoorYFoRow
import Derived.ChangeArms
import Derived.ChangeSlices
import Derived.JoinedOf
set_option linter.all false
namespace Go.Ai
inductive AT where
  | int (k : IntKind)
  | str
  | bool
  | sl (e : AT)
  | st (l : List AT)
def AT.cells : AT → Nat
  | .st l => cellsL l
  | _ => 1
where cellsL : List AT → Nat
  | [] => 0
  | a :: l => a.cells + cellsL l
def AT.has : AT → List DV → Prop
  | .int k, ds => ∃ n, ds = [.int k n] ∧ (Lit.int k n).wf = true
  | .str, ds => ∃ s : List UInt8, ds = [.str s] ∧ s.length ≤ maxLen
  | .bool, ds => ∃ b, ds = [.bool b]
  | .sl e, ds => ∃ es, ds = [.sl e.cells es] ∧ es.length ≤ maxLen ∧ ∀ x ∈ es, e.has x
  | .st l, ds => hasL l ds
where hasL : List AT → List DV → Prop
  | [], ds => ds = []
  | a :: l, ds => ∃ x y, ds = x ++ y ∧ a.has x ∧ hasL l y
mutual
def AT.fits (P : Program) : AT → TypeId → Bool
  | .int k, t => match P.underlying t with | some (.int k') => k == k' | _ => false
  | .str, t => match P.underlying t with | some .string => true | _ => false
  | .bool, t => match P.underlying t with | some .bool => true | _ => false
  | .sl e, t => match P.underlying t with | some (.slice t') => e.fits P t' && P.cellsOf t' == e.cells && decide (0 < e.cells) | _ => false
  | .st l, t => match P.underlying t with | some (.struct fs) => AT.fitsL P l fs.toList 0 && P.cellsOf t == AT.cells.cellsL l | _ => false
def AT.fitsL (P : Program) : List AT → List Field → Nat → Bool
  | [], [], _ => true
  | a :: l, f :: fs, o => f.offset == o && P.cellsOf f.type == a.cells && a.fits P f.type && AT.fitsL P l fs (o + a.cells)
  | _, _, _ => false
end
def Cl (w : World) (cs : List Value) (ds : List DV) : Prop := cs.length = ds.length ∧ ∀ (i : Nat) v d, cs[i]? = some v → ds[i]? = some d → v.oneCell' = true ∧ Rep w (fun b => b < w.heap.size) noLoc v d
theorem Cl.nil {w : World} : Cl w [] [] := ⟨rfl, fun i v d h => by simp at h⟩
theorem Cl.one {w : World} {v : Value} {d : DV} (h1 : v.oneCell' = true) (h : Rep w (fun b => b < w.heap.size) noLoc v d) : Cl w [v] [d] := ⟨rfl, fun i v' d' hv hd => by
  rcases i with _ | i
  · simp at hv hd; subst hv; subst hd; exact ⟨h1, h⟩
  · simp at hv⟩
section
variable {H : Type} {enc : TypeId × Value → H} {P : Program} {w : World} {base : Nat} {spare : Nat → Bool} {held : Bool}
end
end Go.Ai

/- The call of SheetMany. -/
namespace Go.Proofs.Ut
open Go.Ai Classical Go.Shelf Go.RowKit
theorem smany_walk (W : World) (hT : Laid W) (a0 : Int) (_ : (Lit.int IntKind.i64 a0).wf = true) : Calls Tryz.prog 7 #[.int .i64 a0] W fun e W' => e = .returned (.bool true) ∧ Below W.heap.size W W' :=
  door_walk (many7 a0) W hT [.int .i64 a0] rfl fun i v d h1 h2 => by
    rcases i with _ | i
    · cases h1; cases h2; exact .int _ _
    · simp at h1
end Go.Proofs.Ut

/- A row's facts, told one by one: what they need of room is needed one by one. -/
namespace Go.Ai
theorem joined_of {P : Program} {f : FuncId} {fn : Func} {s : ChangeSpec} {c : OpenClaim}
    (k1 : c.wf (OpenSpec.ofChange s) = true) (k2 : laidOutB P = true) (k3 : mapsRowed P = true) (k4 : (fn.params.all (P.readableRec ·) && namedTie P c.named s.vars) = true)
    (k5 : ((c.stops == []) && (P.stops == []) && (c.knobs == []) && (P.stopKnobs == [])) = true)
    (k6 : (c.inPlace == P.inPlace f) = true) (k7 : (c.unfollowed == P.unfollowed f) = true) (k8 : (c.recurses == P.recurses f) = true) (k9 : (c.named == P.varsNamed f) = true)
    (k10 : ((c.maps == (fn.params.toList ++ s.plain.varTypes P).any (P.mapsRec ·)) && (c.ifaces == (fn.params.toList ++ s.plain.varTypes P).any (P.ifacesRec ·)) && (c.mapsOut == P.mapsAmong fn.resultTypes.toList) &&
      (c.loops == (fn.params.toList ++ s.plain.varTypes P).any (P.loopsFrom ·)) && (c.wideKeys == (fn.params.toList ++ s.plain.varTypes P ++ fn.resultTypes.toList).any (P.wideKeysFrom ·)) &&
      s.vars.all (P.varReadable ·) && fn.resultTypes.all (fun t => P.readableRec t && decide (t < P.types.size)) && (c.ifacesOut == fn.resultTypes.toList.any (P.ifacesRec ·)) && (c.loopsOut == fn.resultTypes.toList.any (P.loopsFrom ·))) = true)
    (k11 : (c.plainKeys == P.plainKeys) = true) (k12 : c.shortTexts.isNone = true) (k13 : P.stopsHeard = true) (k14 : P.mayEnter = true) (k15 : (c.lifted == P.liftsFinal) = true) (k16 : (P.make == some c.make) = true)
    (k17 : (c.kinds == (if c.domain.isEmpty then [] else fn.params.toList.map fun t => match P.underlying t with | some (.int k) => some k | _ => none)) = true) (k18 : (c.pinned == c.pinnedBy) = true)
    (k19 : ((c.veiled == (fn.params.toList ++ s.plain.varTypes P ++ fn.resultTypes.toList).any (P.veiledRec ·)) && c.veiledFits P fn.params.toList (fn.params.toList ++ s.plain.varTypes P ++ fn.resultTypes.toList)) = true) :
    joinedFacts P f fn s c = true := by
  unfold joinedFacts
  rw [Bool.and_eq_true] at k4 k19
  simp only [Bool.and_eq_true] at k5 k10
  obtain ⟨⟨⟨a1, a2⟩, a3⟩, a4⟩ := k5
  obtain ⟨⟨⟨⟨⟨⟨⟨⟨b1, b2⟩, b3⟩, b4⟩, b5⟩, b6⟩, b7⟩, b8⟩, b9⟩ := k10
  simp only [k1, k2, k3, k4.1, k4.2, a1, a2, a3, a4, k6, k7, k8, k9, b1, b2, b3, b4, b5, b6, b7, b8, b9, k11, k12, k13, k14, k15, k16, k18, k19.1, k19.2, Bool.true_and, Bool.and_true]
  exact k17
end Go.Ai
