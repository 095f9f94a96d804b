/- (*strings.byteStringReplacer).Replace over the table. -/
import Derived.Test.YtgamnnfndidclaaGreatDoorYR
import Derived.Test.YtgamnnfndidclaaGreatDoorYJ
import Derived.Test.YtgamnnfndidclaaGreatDoorYFoM
import Derived.Shelf.Strings.Count
import Derived.Test.YtgamnnfndidclaaGreatDoorYFoUtD
set_option linter.all false
namespace Go.Proofs.Ut
open Go.Ai Go.Shelf Go.RowKit
set_option maxRecDepth 100000
set_option linter.all false
theorem u92 : (((92 : UInt8).toNat : Nat) : Int) = 92 := rfl
theorem u44 : (((44 : UInt8).toNat : Nat) : Int) = 44 := rfl
theorem u59 : (((59 : UInt8).toNat : Nat) : Int) = 59 := rfl
theorem u10 : (((10 : UInt8).toNat : Nat) : Int) = 10 := rfl
theorem u13 : (((13 : UInt8).toNat : Nat) : Int) = 13 := rfl
end Go.Proofs.Ut

/- strings.NewReplacer(..).Replace as fold.Value calls it. -/
namespace Go.Proofs.Ut
open Go.Ai
set_option maxRecDepth 100000
set_option linter.all false
end Go.Proofs.Ut

/- What the columns of a sheet tell of a contact. -/
namespace Go.Proofs.Ut
open Go.Ai
set_option maxRecDepth 100000
set_option linter.all false
theorem ocP_ctv (c : CT) (h : List AObj) (K : List DV → List AObj → Prop) : ocP (ctv c) h K = K (ctv c) h := by simp only [ctv, ↓gos, gop, Nat.reduceBEq, Nat.reduceAdd, Nat.reduceSub, Nat.reduceLeDiff, Nat.reduceMul, Int.reduceLE, Int.reduceLT, Int.reduceNe, Int.reduceToNat]
theorem ctv_one (c : CT) : (ctv c).all DV.one = true := rfl
end Go.Proofs.Ut

/- sheet.each over the columns; who is refused. -/
namespace Go.Proofs.Ut
open Go.Ai
set_option maxRecDepth 100000
set_option linter.all false
end Go.Proofs.Ut

/- sheet.Write: rows of contacts. -/
namespace Go.Proofs.Ut
open Go.Ai
set_option maxRecDepth 100000
set_option linter.all false
theorem box_clo {cs : List DV} {D : DV} {tl : List AObj} (hcl : cs.all DV.closed = true) (hD : D.closed = true) : finE 1 (fun h d => h = [AObj.box cs] ∧ d = D) (some [D]) (.box cs :: tl) :=
  end_h [0] (by simp) (Nat.le_refl _) id0 (by simp) (closed_inL hD) (by
    intro l hl
    simp at hl; subst hl
    exact List.all_eq_true.2 fun d hd => closed_inL (List.all_eq_true.1 hcl d hd)) rfl rfl ⟨by
    simp only [List.map_cons, List.map_nil, List.getD_cons_zero, renO]
    rw [map_same fun d hd => closed_ren (List.all_eq_true.1 hcl d hd)], closed_ren hD⟩
end Go.Proofs.Ut
