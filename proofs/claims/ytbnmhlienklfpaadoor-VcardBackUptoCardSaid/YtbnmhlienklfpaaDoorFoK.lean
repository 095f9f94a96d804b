/- The call of the law of what is folded and unfolded. -/
import Derived.Test.YtbnmhlienklfpaaDoorFoJ
import Derived.Test.YtbnmhlienklfpaaDoorFoI
import Derived.Test.YtbnmhlienklfpaaDoorAiOpenW
import Derived.LaidLaws
import Derived.Deep.DeepHandedRow
set_option linter.all false
namespace Go.Proofs.Ut
open Go.Ai Classical Go.Shelf Go.RowKit
set_option linter.unusedVariables false
def wtS : List DV → Nat
  | [.str s] => s.length + 1
  | _ => 0
theorem len_wt : ∀ l : List (List UInt8), ((l.map sv).map wtS).sum = (l.map fun s => s.length + 1).sum
  | [] => rfl
  | s :: l => by
    rw [List.map_cons, List.map_cons, List.sum_cons, len_wt l]; rfl
theorem sum_each (l : List (List UInt8)) (N : Nat) (h : (l.map fun s => s.length + 1).sum ≤ N) : l.length ≤ N ∧ ∀ s ∈ l, s.length ≤ N := by
  induction l generalizing N with
  | nil => exact ⟨Nat.zero_le _, fun s hs => by simp at hs⟩
  | cons x l ih =>
    rw [List.map_cons, List.sum_cons] at h
    have h1 := ih (N - (x.length + 1)) (by omega)
    refine ⟨by simp only [List.length_cons]; omega, fun s hs => ?_⟩
    rcases List.mem_cons.1 hs with rfl | hs
    · omega
    · have := h1.2 s hs; omega
section
variable {H : Type} {enc : TypeId × Value → H} {w : World} {base : Nat} {spare : Nat → Bool} {held : Bool}
theorem open_strs {B : DataW H → Nat} (hB0 : 1 ≤ B .nil) (hBs : ∀ b, B (.lit (.string b)) = b.length + 1) (hB1 : ∀ el sp, (el.map B).sum + 1 ≤ B (.slice el sp))
    {fuel : Nat} {cs : List Value} {x : DataW H × List MemPlace} (h : DataW.trod enc Tryd.prog w base spare held fuel 22 cs = some x) :
    ∃ l : List (List UInt8), Cl w cs [.sl 1 (l.map sv)] ∧ l.length ≤ B x.1 ∧ ∀ s ∈ l, s.length ≤ B x.1 := by
  obtain ⟨es, g1, g2, g3⟩ := open_slice (c := 1) (p := fun ds => ∃ s : List UInt8, ds = sv s) (wt := wtS) (B := B) (t' := 9) Tryd.underlying22 (by kernel_rfl) (by omega) hB0 hB1 (fun {fuel cs x} h => by
    obtain ⟨s, k1, k2⟩ := open_str Tryd.underlying9 hBs h
    exact ⟨[.str s], rfl, ⟨s, rfl⟩, k1, k2⟩) h
  obtain ⟨y, rfl, _⟩ := rows_ofP (f := sv) (p := fun _ => True) es fun e he => by
    obtain ⟨s, rfl⟩ := g2 e he
    exact ⟨s, rfl, trivial⟩
  rw [len_wt] at g3
  have := sum_each y _ (Nat.le_trans (Nat.le_add_right _ 1) g3)
  exact ⟨y, g1, this.1, this.2⟩
end
theorem back_walk (W : World) (hT : Laid W) {v0 : Value} {l : List (List UInt8)} (c0 : Cl W [v0] [.sl 1 (l.map sv)]) (hl : l.length ≤ 10000000) (hs : ∀ s ∈ l, s.length ≤ 10000000) :
    Calls Tryd.prog 3 #[v0] W fun e W' => e = .returned (.bool true) ∧ Below W.heap.size W W' := by
  refine door_walk (back3 l (by omega) (fun s h => by have := hs s h; omega)) W hT [v0] rfl fun i v d g1 g2 => ?_
  rcases i with _ | i
  · exact cl_1 (i := 0) c0 g1 g2
  · simp at g1
/-- 'There is an input that fits', at a world whose shape is known. -/
theorem witness_row_sh {H : Type} {enc : TypeId × Value → H} {C : Checked} {os : Os} {f : FuncId} {fn : Func} {s : OpenSpec} {conds : List PathCond} {apart : Bool} {laid : List (String × DataW Unit)} (modest : Bool) (w0 : World) (args : Array Value) (hos : w0.os = os)
    (hsh : (w0.forCall (fun _ _ => 0) ⟨#[], args, []⟩).Shaped C.prog)
    (hok : Input.okWideB C.prog (w0.forCall (fun _ _ => 0) ⟨#[], args, []⟩) f ⟨#[], args, []⟩ = true)
    (hrow : s.preRow enc C.prog fn conds apart laid (w0.forCall (fun _ _ => 0) ⟨#[], args, []⟩).memory args) :
    ∃ (w : World) (tape : Tape) (i : Input), w.os = os ∧ (w.forCall tape i).Shaped C.prog ∧ i.vars = [] ∧ Input.okWide C.prog (w.forCall tape i) .any w.heap.size f i ∧
      s.preRow enc C.prog fn conds apart laid (w.forCall tape i).memory i.args ∧ ({ modest := modest } : Assume).holds C.prog (lone (Frame.enter C.prog f i.args .normal) [] (w.forCall tape i)) :=
  ⟨w0, fun _ _ => 0, ⟨#[], args, []⟩, hos, hsh, (Input.okWide_of_okWideB (base := 0) hok).1, (Input.okWide_of_okWideB hok).2, hrow, by
    simp only [Assume.holds]
    exact ⟨by simp, by simp, fun _ => Modest.zero, by simp, by simp⟩⟩
end Go.Proofs.Ut
