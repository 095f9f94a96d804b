/- The calls of three laws of fold. -/
import Derived.Test.YtbnmhlienklfpaaDoorFoH
import Derived.Test.YtbnmhlienklfpaaDoorFoRow
import Derived.Test.YtbnmhlienklfpaaDoorAiOpen
set_option linter.all false
namespace Go.Proofs.Ut
open Go.Ai Classical Go.Shelf Go.RowKit
theorem rows_ofP {α : Type} {f : α → List DV} {p : α → Prop} : ∀ es : List (List DV), (∀ e ∈ es, ∃ x, e = f x ∧ p x) → ∃ l : List α, es = l.map f ∧ ∀ x ∈ l, p x
  | [], _ => ⟨[], rfl, fun x h => by simp at h⟩
  | e :: es, h => by
    obtain ⟨l, rfl, hp⟩ := rows_ofP es fun x hx => h x (by simp [hx])
    obtain ⟨x, rfl, hx⟩ := h e (by simp)
    exact ⟨x :: l, rfl, fun y hy => by
      rcases List.mem_cons.1 hy with q | q
      · subst q; exact hx
      · exact hp y q⟩
theorem ints_of {ds : List DV} (h : AT.has (.sl (.int .i64)) ds) : ∃ l : List Int, ds = [.sl 1 (l.map num)] ∧ l.length ≤ maxLen := by
  obtain ⟨es, rfl, hl, he⟩ := h
  obtain ⟨l, rfl, _⟩ := rows_ofP (f := num) (p := fun _ => True) es fun e h => by
    obtain ⟨n, rfl, _⟩ := he e h
    exact ⟨n, rfl, trivial⟩
  exact ⟨l, rfl, by simpa using hl⟩
theorem cl_1 {w : World} {v v' : Value} {d d' : DV} {i : Nat} (h : Cl w [v] [d]) (hv : [v][i]? = some v') (hd : [d][i]? = some d') : Rep w (fun b => b < w.heap.size) noLoc v' d' := (h.2 i v' d' hv hd).2
theorem refuses_walk (W : World) (hT : Laid W) (a0 : Int) (_ : (Lit.int IntKind.i64 a0).wf = true) (a1 : Int) (_ : (Lit.int IntKind.i64 a1).wf = true) : Calls Tryd.prog 4 #[.int .i64 a0, .int .i64 a1] W fun e W' => e = .returned (.bool true) ∧ Below W.heap.size W W' :=
  door_walk (refuses4 a0 a1) W hT [.int .i64 a0, .int .i64 a1] rfl fun i v d h1 h2 => by
    rcases i with _ | _ | i
    · cases h1; cases h2; exact .int _ _
    · cases h1; cases h2; exact .int _ _
    · simp at h1
theorem rows_walk (W : World) (hT : Laid W) (a0 : Int) (_ : (Lit.int IntKind.i64 a0).wf = true) (a1 : Int) (w1 : (Lit.int IntKind.u8 a1).wf = true) : Calls Tryd.prog 5 #[.int .i64 a0, .int .u8 a1] W fun e W' => e = .returned (.bool true) ∧ Below W.heap.size W W' := by
  have hb : 0 ≤ a1 ∧ a1 < 256 := by
    simp [Lit.wf, IntKind.min, IntKind.max, IntKind.bits, IntKind.signed] at w1
    omega
  have e : ((UInt8.ofNat a1.toNat).toNat : Int) = a1 := by rw [toNat_of _ (by omega)]; omega
  have hc := rows5 a0 (UInt8.ofNat a1.toNat)
  rw [e] at hc
  exact door_walk hc W hT [.int .i64 a0, .int .u8 a1] rfl fun i v d h1 h2 => by
    rcases i with _ | _ | i
    · cases h1; cases h2; exact .int _ _
    · cases h1; cases h2; exact .int _ _
    · simp at h1
theorem anywhere_walk (W : World) (hT : Laid W) (a0 : ByteArray) (w0 : a0.size ≤ 140737488351232) {v1 : Value} {ds1 : List DV} (h1 : AT.has (.sl (.int .i64)) ds1) (c1 : Cl W [v1] ds1) :
    Calls Tryd.prog 6 #[.string a0, v1] W fun e W' => e = .returned (.bool true) ∧ Below W.heap.size W W' := by
  obtain ⟨l, rfl, hl⟩ := ints_of h1
  refine door_walk (anywhere6 a0.data.toList l (by simp; omega) (by unfold maxLen at hl; omega)) W hT [.string a0, v1] rfl fun i v d g1 g2 => ?_
  rcases i with _ | _ | i
  · cases g1; cases g2; exact .str _
  · exact cl_1 (i := 0) c1 g1 g2
  · simp at g1
end Go.Proofs.Ut
