/- From what a row lists to where the variables lie; the witness; the world's shape kept. -/
import Derived.Test.YtbnmhlienklfpaaGreatDoorZFoUtF
import Derived.Test.YtbnmhlienklfpaaGreatDoorAiRow
import Derived.Test.YtbnmhlienklfpaaGreatDoorRows
import Derived.Lib.LaidIn
import Derived.Lib.LaidTab
import Derived.Lib.LaidU8T
import Derived.PinnedBridge
import Derived.ProofKit
import Derived.LaidMore
import Derived.Lay
import Derived.Stop.Joined
import Derived.Handed
import Derived.Shelf.Vars
set_option linter.all false
namespace Go.Proofs.Ut
open Go.Shelf Go.Lib Go.RowKit
open Go.Proofs.YtbnmhlienklfpaaGreatDoor Go.Ai
noncomputable abbrev laidL : List (String × DataW Unit) := [("unicode/utf8.acceptRanges", Rows.laid_unicode_utf8_acceptRanges), ("unicode.asciiFold", Rows.laid_unicode_asciiFold), ("unicode.caseOrbit", Rows.laid_unicode_caseOrbit), ("unicode.CaseRanges", Rows.laid_unicode_CaseRanges), ("unicode/utf8.first", Rows.laid_unicode_utf8_first)]
theorem accept_eq : (Rows.laid_unicode_utf8_acceptRanges : DataW Unit) = acceptData := by kernel_rfl
theorem first_eq : Rows.laid_unicode_utf8_first = firstData := by kernel_rfl
def foldZ : List Int := (List.range 128).map foldC
theorem fold_eq : (Rows.laid_unicode_asciiFold : DataW Unit) = tabData .u16 foldZ := by kernel_rfl
theorem tab_of_read {P : Program} {W : World} {name : String} {k : IntKind} {zs : List Int} {g : Nat} {t e : TypeId} {n : Nat}
    (hg : P.globalNamed name = some g) (hty : (P.globals[g]?).map (·.type) = some t) (ht : P.underlying t = some (.array n e)) (he : P.underlying e = some (.int k)) (hce : P.cellsOf e = 1) (hct : P.cellsOf t = n)
    (h : VarReads P W name (tabData k zs)) : TabIs P W name k zs := by
  obtain ⟨g', t', cs, fuel, p, hg', ht', hvar, hd⟩ := h
  obtain rfl := Option.some.inj (hg.symm.trans hg')
  obtain rfl := Option.some.inj (hty.symm.trans ht')
  unfold TabIs
  rw [hvar, ← cells_of_tab ht he hce hct hd]
theorem laid_of {W : World} (h : laidMetH Tryz.prog laidL W) (hsh : W.ShapedOpen Tryz.prog) : Laid W := by
  rw [MakeChecks.laidMetH_plain _ _ _ (by kernel_rfl)] at h
  have h3 := Lib.laidMet.reads h (.tail _ (.tail _ (.tail _ (.tail _ (.head _)))))
  have h4 := Lib.laidMet.reads h (.head _)
  have h0 := Lib.laidMet.reads h (.tail _ (.head _))
  rw [first_eq] at h3
  rw [accept_eq] at h4
  rw [fold_eq] at h0
  refine ⟨utf8Tabs_of_readsT (U8Types.of196 Tryz.laysValid) ⟨by kernel_rfl, by kernel_rfl, by kernel_rfl, by kernel_rfl, by kernel_rfl, by kernel_rfl, by kernel_rfl⟩ h3 h4, ?_, fun i hi => ?_⟩
  · exact cell_of_shapedOpen_int (t := 3) (zero := #[.int .i64 0]) hsh (of_decide_eq_true (by kernel_rfl)) (by kernel_rfl) (by kernel_rfl) (by kernel_rfl) (by kernel_rfl) (by kernel_rfl)
  · have ht := tab_of_read (P := Tryz.prog) (g := 0) (t := 134) (e := 133) (n := 128) (by kernel_rfl) (by kernel_rfl) (by kernel_rfl) (by kernel_rfl) (by kernel_rfl) (by kernel_rfl) h0
    have := ht.cell (g := 0) (by kernel_rfl) i (by simpa [foldZ] using hi)
    rw [this]
    simp [foldZ, hi]
theorem laid_size {W : World} (h : Laid W) : 6 ≤ W.heap.size := by
  obtain ⟨m, hm⟩ := h.most
  rcases Nat.lt_or_ge 5 W.heap.size with h1 | h1
  · exact h1
  · simp [World.cell?, Array.getElem?_eq_none h1] at hm
theorem door_walk {f : Nat} {args : List DV} (hc : Ai.ACalls ED f [] args fun h d => h = [] ∧ d = .bool true) (W : World) (hT : Laid W) (vs : List Value) (hl : vs.length = args.length)
    (hv : ∀ (i : Nat) v d, vs[i]? = some v → args[i]? = some d → Ai.Rep W (fun b => b < W.heap.size) Ai.noLoc v d) : Calls Tryz.prog f vs.toArray W fun e W' => e = .returned (.bool true) ∧ Below W.heap.size W W' :=
  Ai.row_walk hc W hT (laid_size hT) vs hl hv
end Go.Proofs.Ut
