import Derived.Test.YtbhlmbacgbfaoaaRgJ
import Derived.Test.YtbhlmbacgbfaoaaAiOpen
import Derived.WalkKit
import Derived.OpenShut
set_option linter.all false
namespace Go.Proofs.Rg
open Go.Ai Classical Go.RowKit
theorem i64_wf {n : Int} (h : (Lit.int .i64 n).wf = true) : -9223372036854775808 ≤ n ∧ n ≤ 9223372036854775807 := by
  simpa [Lit.wf, IntKind.min, IntKind.max, IntKind.signed, IntKind.bits] using h
theorem rows_of {α : Type} {f : α → List DV} {p : α → Prop} : ∀ (es : List (List DV)), (∀ e ∈ es, ∃ x, e = f x ∧ p x) → ∃ l : List α, es = l.map f ∧ ∀ x ∈ l, p x
  | [], _ => ⟨[], rfl, by simp⟩
  | e :: es, h => by
    obtain ⟨x, rfl, hp⟩ := h e (by simp)
    obtain ⟨l, rfl, hl⟩ := rows_of es fun e he => h e (by simp [he])
    exact ⟨x :: l, rfl, by simpa using ⟨hp, hl⟩⟩
theorem rg_of {ds : List DV} (h : AT.has (.sl (.st [.int .i64, .int .i64])) ds) : ∃ l : List (Int × Int), ds = [.sl 2 (l.map rg)] ∧ ∀ r ∈ l, I64 r := by
  obtain ⟨es, rfl, _, he⟩ := h
  obtain ⟨l, rfl, hl⟩ := rows_of (f := rg) (p := I64) es fun e h => by
    obtain ⟨x, y, rfl, ⟨a, rfl, ha⟩, z, u, rfl, ⟨b, rfl, hb⟩, hu⟩ := he e h
    simp only [AT.has.hasL] at hu
    subst hu
    exact ⟨(a, b), rfl, (i64_wf ha).1, (i64_wf ha).2, (i64_wf hb).1, (i64_wf hb).2⟩
  exact ⟨l, rfl, hl⟩
theorem num_of {ds : List DV} (h : AT.has (.sl (.int .i64)) ds) : ∃ l : List Int, ds = [.sl 1 (l.map num)] := by
  obtain ⟨es, rfl, _, he⟩ := h
  obtain ⟨l, rfl, _⟩ := rows_of (f := num) (p := fun _ => True) es fun e h => by
    obtain ⟨n, rfl, _⟩ := he e h
    exact ⟨n, rfl, trivial⟩
  exact ⟨l, rfl⟩
theorem cl_get {w : World} {v v' : Value} {d d' : DV} {i : Nat} (h : Cl w [v] [d]) (hv : [v][i]? = some v') (hd : [d][i]? = some d') : Rep w (fun b => b < w.heap.size) noLoc v' d' := (h.2 i v' d' hv hd).2
theorem tables_walk (W : World) (a0 : Int) (_ : (Lit.int .i64 a0).wf = true) : Calls Try.prog 6 #[.int .i64 a0] W fun e w' => e = .returned (.bool true) ∧ Below W.heap.size W w' :=
  row_walk (tables_calls a0) W trivial (Nat.zero_le _) [.int .i64 a0] rfl fun i v d h1 h2 => by
    rcases i with _ | i
    · cases h1; cases h2; exact .int _ _
    · simp at h1
theorem tell_walk (W : World) {v0 v1 : Value} {ds0 ds1 : List DV} (h0 : AT.has (.sl (.st [.int .i64, .int .i64])) ds0) (c0 : Cl W [v0] ds0) (h1 : AT.has (.sl (.st [.int .i64, .int .i64])) ds1) (c1 : Cl W [v1] ds1) (a : Int) (_ : (Lit.int .i64 a).wf = true) :
    Calls Try.prog 3 #[v0, v1, .int .i64 a] W fun e w' => e = .returned (.bool true) ∧ Below W.heap.size W w' := by
  obtain ⟨l, rfl, hl⟩ := rg_of h0
  obtain ⟨m, rfl, hm⟩ := rg_of h1
  refine row_walk (tell_calls l m a hl hm) W trivial (Nat.zero_le _) [v0, v1, .int .i64 a] rfl fun i v d h1 h2 => ?_
  rcases i with _ | _ | _ | i
  · exact cl_get (i := 0) c0 h1 h2
  · exact cl_get (i := 0) c1 h1 h2
  · cases h1; cases h2; exact .int _ _
  · simp at h1
theorem join_walk (W : World) {v0 v1 : Value} {ds0 ds1 : List DV} (h0 : AT.has (.sl (.int .i64)) ds0) (c0 : Cl W [v0] ds0) (h1 : AT.has (.sl (.int .i64)) ds1) (c1 : Cl W [v1] ds1) :
    Calls Try.prog 4 #[v0, v1] W fun e w' => e = .returned (.bool true) ∧ Below W.heap.size W w' := by
  obtain ⟨l, rfl⟩ := num_of h0
  obtain ⟨m, rfl⟩ := num_of h1
  refine row_walk (joinlaw_calls l m) W trivial (Nat.zero_le _) [v0, v1] rfl fun i v d h1 h2 => ?_
  rcases i with _ | _ | i
  · exact cl_get (i := 0) c0 h1 h2
  · exact cl_get (i := 0) c1 h1 h2
  · simp at h1
end Go.Proofs.Rg
