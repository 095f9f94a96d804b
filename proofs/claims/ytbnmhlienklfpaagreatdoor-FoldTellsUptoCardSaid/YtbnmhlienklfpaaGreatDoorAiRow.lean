/- From a contract to a row: a law's call, in a world that came in. -/
import Derived.Test.YtbnmhlienklfpaaGreatDoorAiEnd
import Derived.Carry
set_option linter.all false
namespace Go.Ai
open Go.RowKit
theorem row_walk {E : Env} {f : Nat} {args : List DV} (hc : ACalls E f [] args fun h d => h = [] ∧ d = .bool true) (W : World) (hg : E.G W) (hn : E.N ≤ W.heap.size) (vs : List Value) (hl : vs.length = args.length)
    (hv : ∀ (i : Nat) v d, vs[i]? = some v → args[i]? = some d → Rep W (fun b => b < W.heap.size) noLoc v d) : Calls E.P f vs.toArray W fun e W' => e = .returned (.bool true) ∧ Below W.heap.size W W' := by
  refine (hc.2 W (fun b => b < W.heap.size) noLoc vs hg hn ⟨fun _ _ => rfl, fun l l' b o o' h => by simp [noLoc] at h, fun l b o h => by simp [noLoc] at h, fun l b o h => by simp [noLoc] at h, fun _ h => h, fun l o h => by simp at h⟩ hl hv).mono ?_
  rintro e W' ⟨v, ok', β', h', d, rfl, ⟨_, rfl⟩, _, hev, _, hr, _⟩
  refine ⟨by rw [hr.bool_in], ⟨hev.os, hev.tape, hev.output, hev.size, fun k hk => hev.same k hk fun l x h => by simp [noLoc] at h⟩⟩
end Go.Ai
