/- The library's stable sort of texts: insertion. -/
import Derived.Test.YtgamnnfndidclaaGreatDoorYFoUtF
import Derived.Test.YtgamnnfndidclaaGreatDoorYPrB
import Derived.Test.YtgamnnfndidclaaGreatDoorAiUn
import Derived.Test.YtgamnnfndidclaaGreatDoorYVcC
import Derived.Test.YtgamnnfndidclaaGreatDoorLawJid
import Derived.Test.YtgamnnfndidclaaGreatDoorYFoE
set_option linter.all false
namespace Go.Proofs.Ut
open Go.Ai
set_option maxRecDepth 100000
def st1 (s : List UInt8) : List DV := [.str s]
end Go.Proofs.Ut

namespace Go.Ai
end Go.Ai
namespace Go.Proofs.Ut
open Go.Ai
set_option maxRecDepth 100000
theorem id0 (i : Nat) (h : i < 1) : [0][i]? = some i := by
 have : i = 0 := by omega
 subst this
 rfl
theorem take_getDq {α : Type} {l : List α} {j : Nat} (h : j < l.length) (d : α) : l.take (j + 1) = l.take j ++ [l.getD j d] := by
 rw [List.getD_eq_getElem?_getD, List.getElem?_eq_getElem h]; simp
def idxE (l : List (List UInt8)) : Int := if [] ∈ l then (l.idxOf [] : Nat) else -1
end Go.Proofs.Ut
