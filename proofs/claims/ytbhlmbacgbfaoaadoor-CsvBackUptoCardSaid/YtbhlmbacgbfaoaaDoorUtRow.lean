/- From what a row lists (the two tables) to where the decoder's tables lie; the witness. -/
import Derived.Test.YtbhlmbacgbfaoaaDoorUtF
import Derived.Test.YtbhlmbacgbfaoaaDoorAiRow
import Derived.Test.YtbhlmbacgbfaoaaDoorRows
import Derived.Lib.LaidIn
import Derived.Lib.LaidU8T
import Derived.PinnedBridge
import Derived.ProofKit
import Derived.LaidMore
import Derived.Lay
import Derived.Stop.Joined
set_option linter.all false
namespace Go.Proofs.Ut
open Go.Shelf Go.Lib Go.RowKit
open Go.Proofs.YtbhlmbacgbfaoaaDoor Go.Ai
noncomputable abbrev laidL : List (String × DataW Unit) := [("unicode/utf8.acceptRanges", Rows.laid_unicode_utf8_acceptRanges), ("unicode/utf8.first", Rows.laid_unicode_utf8_first)]
theorem accept_eq : (Rows.laid_unicode_utf8_acceptRanges : DataW Unit) = acceptData := by kernel_rfl
theorem first_eq : Rows.laid_unicode_utf8_first = firstData := by kernel_rfl
theorem tabs_of {W : World} (h : laidMetH Tryd.prog laidL W) : Lib.Utf8Tabs 0 1 W := by
  rw [MakeChecks.laidMetH_plain _ _ _ (by kernel_rfl)] at h
  have h3 := Lib.laidMet.reads h (.tail _ (.head _))
  have h4 := Lib.laidMet.reads h (.head _)
  rw [first_eq] at h3
  rw [accept_eq] at h4
  exact utf8Tabs_of_readsT (U8Types.of196 Tryd.laysValid) ⟨by kernel_rfl, by kernel_rfl, by kernel_rfl, by kernel_rfl, by kernel_rfl, by kernel_rfl, by kernel_rfl⟩ h3 h4
theorem tabs_size {W : World} (h : Lib.Utf8Tabs 0 1 W) : 2 ≤ W.heap.size := by
  have := (h.2 0 (by omega)).1
  rcases Nat.lt_or_ge 1 W.heap.size with h1 | h1
  · exact h1
  · simp [World.cell?, Array.getElem?_eq_none h1] at this
theorem laid_witness (os : Os) (args : Array Value) : laidMetH Tryd.prog laidL ((World.laidAll Tryd.prog os laidL).forCall (fun _ _ => 0) ⟨#[], args, []⟩).memory := by
  rw [MakeChecks.laidMetH_plain _ _ _ (by kernel_rfl)]
  exact laidMet_laidAll _ (by kernel_rfl) (by kernel_rfl)
theorem door_walk {f : Nat} {args : List DV} (hc : Ai.ACalls ED f [] args fun h d => h = [] ∧ d = .bool true) (W : World) (hT : Lib.Utf8Tabs 0 1 W) (vs : List Value) (hl : vs.length = args.length)
    (hv : ∀ (i : Nat) v d, vs[i]? = some v → args[i]? = some d → Ai.Rep W (fun b => b < W.heap.size) Ai.noLoc v d) : Calls Tryd.prog f vs.toArray W fun e W' => e = .returned (.bool true) ∧ Below W.heap.size W W' :=
  Ai.row_walk hc W hT (tabs_size hT) vs hl hv
end Go.Proofs.Ut
