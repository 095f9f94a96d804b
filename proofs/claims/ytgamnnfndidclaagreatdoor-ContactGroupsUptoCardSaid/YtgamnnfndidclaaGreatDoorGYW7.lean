/- (*strings.byteStringReplacer).Replace over the table. -/
import Derived.Test.YtgamnnfndidclaaGreatDoorGYR
import Derived.Test.YtgamnnfndidclaaGreatDoorGYJ2
import Derived.Test.YtgamnnfndidclaaGreatDoorGYFoAny
import Derived.Test.YtgamnnfndidclaaGreatDoorGLawJid
import Derived.Shelf.Strings.Count
import Derived.Test.YtgamnnfndidclaaGreatDoorGYFoUtD
set_option linter.all false
namespace Go.Proofs.Ut
open Go.Ai Go.Shelf Go.RowKit
set_option maxRecDepth 100000
theorem u92:(((92:UInt8).toNat:Nat):Int)=92:=rfl
theorem u44:(((44:UInt8).toNat:Nat):Int)=44:=rfl
theorem u59:(((59:UInt8).toNat:Nat):Int)=59:=rfl
theorem u10:(((10:UInt8).toNat:Nat):Int)=10:=rfl
theorem u13:(((13:UInt8).toNat:Nat):Int)=13:=rfl
end Go.Proofs.Ut

namespace Go.Proofs.Ut
open Go.Ai
set_option maxRecDepth 100000
theorem EW (c:CT)(h:List AObj)(K:List DV→List AObj→Prop):ocP (ctv c) h K=K (ctv c) h:=by simp only [ctv,↓gos,gop,Nat.reduceBEq,Nat.reduceAdd,Nat.reduceSub,Nat.reduceLeDiff,Nat.reduceMul,Int.reduceLE,Int.reduceLT,Int.reduceNe,Int.reduceToNat]
theorem EB (c:CT):(ctv c).all DV.one=true:=rfl
theorem oY {cs:List DV}{D:DV}{tl:List AObj}(hcl:cs.all DV.closed=true)(hD:D.closed=true):dY 1 (fun h d=>h=[AObj.box cs]∧d=D) (some [D]) (.box cs::tl):=
 tV [0] (by simp) (Nat.le_refl _) id0 (by simp) (bC hD) (by
  intro l hl
  simp at hl; subst hl
  exact List.all_eq_true.2 fun d hd=>bC (List.all_eq_true.1 hcl d hd)) rfl rfl ⟨by
  simp only [List.map_cons,List.map_nil,List.getD_cons_zero,aR]
  rw [cJ fun d hd=>bD (List.all_eq_true.1 hcl d hd)],bD hD⟩
end Go.Proofs.Ut
