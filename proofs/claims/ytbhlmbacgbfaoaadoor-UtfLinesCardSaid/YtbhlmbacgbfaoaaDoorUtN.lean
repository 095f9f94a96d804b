/- UtfLines, from the row's side. -/
import Derived.Test.YtbhlmbacgbfaoaaDoorUtM
import Derived.Test.YtbhlmbacgbfaoaaDoorAiOpen
set_option linter.all false
namespace Go.Proofs.Ut
open Go.Ai Go.RowKit
theorem cl_one {W : World} {v x : Value} {ds : List DV} {d : DV} {i : Nat} (c : Cl W [v] ds) (h1 : [v][i]? = some x) (h2 : ds[i]? = some d) : Rep W (fun b => b < W.heap.size) noLoc x d := (c.2 i x d h1 h2).2
theorem num_of {ds : List DV} (h : AT.has (.sl (.int .i64)) ds) : ∃ l : List Int, ds = [.sl 1 (l.map num)] := by
  obtain ⟨es, rfl, _, he⟩ := h
  suffices hs : ∀ es : List (List DV), (∀ x ∈ es, AT.has (.int .i64) x) → ∃ l : List Int, es = l.map num by
    obtain ⟨l, rfl⟩ := hs es he
    exact ⟨l, rfl⟩
  intro es
  induction es with
  | nil => exact fun _ => ⟨[], rfl⟩
  | cons e es ih =>
    intro he
    obtain ⟨l, rfl⟩ := ih fun x hx => he x (by simp [hx])
    obtain ⟨n, rfl, _⟩ := he e (by simp)
    exact ⟨n :: l, rfl⟩
theorem lines_walk (W : World) (hT : Lib.Utf8Tabs 0 1 W) {v0 : Value} {ds0 : List DV} (h0 : AT.has (.sl (.int .i64)) ds0) (c0 : Cl W [v0] ds0) (a1 : Int) (_ : (Lit.int IntKind.i64 a1).wf = true) (a2 : Int) (_ : (Lit.int IntKind.i64 a2).wf = true) (a3 : Int) (w3 : (Lit.int IntKind.u8 a3).wf = true) :
    Calls Tryd.prog 6 #[v0, .int .i64 a1, .int .i64 a2, .int .u8 a3] W fun e W' => e = .returned (.bool true) ∧ Below W.heap.size W W' := by
  obtain ⟨l, rfl⟩ := num_of h0
  refine door_walk (lines6 l a1 a2 a3 (by simp [Lit.wf, IntKind.min, IntKind.max, IntKind.bits, IntKind.signed] at w3; omega)) W hT [v0, .int .i64 a1, .int .i64 a2, .int .u8 a3] rfl fun i v d h1 h2 => ?_
  rcases i with _ | _ | _ | _ | i
  · exact cl_one (i := 0) c0 h1 h2
  · cases h1; cases h2; exact .int _ _
  · cases h1; cases h2; exact .int _ _
  · cases h1; cases h2; exact .int _ _
  · simp at h1
end Go.Proofs.Ut
