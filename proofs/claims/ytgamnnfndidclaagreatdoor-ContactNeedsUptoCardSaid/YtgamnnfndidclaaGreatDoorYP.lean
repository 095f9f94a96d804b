/- sheet.columns: what hands back closures. -/
import Derived.Test.YtgamnnfndidclaaGreatDoorYK
import Derived.Test.YtgamnnfndidclaaGreatDoorYO3
set_option linter.all false
namespace Go.Proofs.Ut
open Go.Ai
set_option maxRecDepth 100000
def plains : List (List UInt8) → Option (List (List UInt8))
 | [] => some []
 | x :: l => (plainF x).bind fun y => (plains l).map (y :: ·)
theorem plains_snoc (x : List UInt8) : ∀ l : List (List UInt8), plains (l ++ [x]) = (plains l).bind fun a => (plainF x).map (a ++ [·])
 | [] => by simp only [List.nil_append, plains]; cases plainF x <;> rfl
 | z :: l => by
  simp only [List.cons_append, plains, plains_snoc x l]
  cases plainF z with
  | none => rfl
  | some y =>
   cases plains l with
   | none => rfl
   | some a => cases plainF x <;> rfl
theorem plains_none {x : List UInt8} (hx : plainF x = none) : ∀ (a b : List (List UInt8)), plains (a ++ x :: b) = none
 | [], b => by simp [plains, hx]
 | z :: a, b => by
  simp only [List.cons_append, plains, plains_none hx a b]
  cases plainF z <;> rfl
theorem splitF_ne (sep : UInt8) : ∀ (s : List UInt8) (e : Bool) (cur : List UInt8), splitF sep e cur s ≠ []
 | [], e, cur => by simp [splitF]
 | x :: s, e, cur => by
  unfold splitF
  split
  ·simp
  ·exact splitF_ne sep s _ _
theorem splitF_len (sep : UInt8) : ∀ (s : List UInt8) (e : Bool) (cur : List UInt8), (splitF sep e cur s).length ≤ s.length + 1
 | [], e, cur => by simp [splitF]
 | x :: s, e, cur => by
  unfold splitF
  split
  ·have := splitF_len sep s (escN e x) []
   simp; omega
  ·have := splitF_len sep s (escN e x) (cur ++ [x])
   simp; omega
theorem splitF_mem (sep : UInt8) : ∀ (s : List UInt8) (e : Bool) (cur : List UInt8), ∀ x ∈ splitF sep e cur s, x.length ≤ cur.length + s.length
 | [], e, cur, x, hx => by simp [splitF] at hx; subst hx; simp
 | y :: s, e, cur, x, hx => by
  unfold splitF at hx
  split at hx
  ·rcases List.mem_cons.1 hx with rfl | hx
   ·simp
   ·have := splitF_mem sep s _ _ x hx
    simp at this; simp; omega
  ·have := splitF_mem sep s _ _ x hx
   simp at this; simp; omega
end Go.Proofs.Ut
