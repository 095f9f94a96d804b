/- The call of the law of what is told. -/
import Derived.Test.YtbnmhlienklfpaaGreatDoorZV
import Derived.Test.YtbnmhlienklfpaaGreatDoorZFoRow
import Derived.Test.YtbnmhlienklfpaaGreatDoorAiOpen
import Derived.Test.YtbnmhlienklfpaaGreatDoorAiOpenW
set_option linter.all false
namespace Go.Proofs.Ut
open Go.Ai Go.Shelf Go.RowKit
set_option linter.all false
theorem strs_of {ds : List DV} (h : (AT.sl .str).has ds) : ∃ l : List (List UInt8), ds = [.sl 1 (l.map sv)] ∧ wt3 l ≤ 3 * DV.wt.wtL ds := by
  obtain ⟨es, rfl, hl, hes⟩ := h
  have key : ∀ es : List (List DV), (∀ e ∈ es, AT.str.has e) → ∃ l : List (List UInt8), es = l.map sv ∧ wt3 l ≤ 3 * DV.wt.wtEs es := fun es => by
    induction es with
    | nil => exact fun _ => ⟨[], rfl, by simp [wt3]⟩
    | cons e es ih =>
      intro h
      obtain ⟨l, rfl, hw⟩ := ih fun x hx => h x (by simp [hx])
      obtain ⟨s, rfl, _⟩ := h e (by simp)
      refine ⟨s :: l, rfl, ?_⟩
      simp only [wt3, List.map_cons, List.sum_cons, DV.wt.wtEs, DV.wt.wtL, DV.wt] at *
      omega
  obtain ⟨l, rfl, hw⟩ := key es hes
  refine ⟨l, rfl, ?_⟩
  simp only [DV.wt.wtL, DV.wt]
  omega
theorem cl_1 {w : World} {v v' : Value} {d d' : DV} {i : Nat} (h : Ai.Cl w [v] [d]) (hv : [v][i]? = some v') (hd : [d][i]? = some d') : Rep w (fun b => b < w.heap.size) noLoc v' d' := (h.2 i v' d' hv hd).2
theorem witness_row_sh {H : Type} {enc : TypeId × Value → H} {C : Checked} {os : Os} {f : FuncId} {fn : Func} {s : OpenSpec} {conds : List PathCond} {apart : Bool} {laid : List (String × DataW Unit)} (modest : Bool) (w0 : World) (args : Array Value) (hos : w0.os = os)
    (hsh : (w0.forCall (fun _ _ => 0) ⟨#[], args, []⟩).Shaped C.prog)
    (hok : Input.okWideB C.prog (w0.forCall (fun _ _ => 0) ⟨#[], args, []⟩) f ⟨#[], args, []⟩ = true)
    (hrow : s.preRow enc C.prog fn conds apart laid (w0.forCall (fun _ _ => 0) ⟨#[], args, []⟩).memory args) :
    ∃ (w : World) (tape : Tape) (i : Input), w.os = os ∧ (w.forCall tape i).Shaped C.prog ∧ i.vars = [] ∧ Input.okWide C.prog (w.forCall tape i) .any w.heap.size f i ∧
      s.preRow enc C.prog fn conds apart laid (w.forCall tape i).memory i.args ∧ ({ modest := modest } : Assume).holds C.prog (lone (Frame.enter C.prog f i.args .normal) [] (w.forCall tape i)) :=
  ⟨w0, fun _ _ => 0, ⟨#[], args, []⟩, hos, hsh, (Input.okWide_of_okWideB (base := 0) hok).1, (Input.okWide_of_okWideB hok).2, hrow, by
    simp only [Assume.holds]
    exact ⟨by simp, by simp, fun _ => Modest.zero, by simp, by simp⟩⟩
theorem tells_walk (W : World) (hT : Laid W) {v0 : Value} {ds0 : List DV} (h0 : (AT.sl .str).has ds0) (c0 : Ai.Cl W [v0] ds0) (w0 : DV.wt.wtL ds0 ≤ 1048576) (a1 : ByteArray) (w1 : a1.size ≤ 1048576) (a2 : Int) (w2 : (Lit.int IntKind.u8 a2).wf = true) :
    Calls Tryz.prog 3 #[v0, .string a1, .int .u8 a2] W fun e W' => e = .returned (.bool true) ∧ Below W.heap.size W W' := by
  obtain ⟨l, rfl, hl⟩ := strs_of h0
  have hw := (wt3_all l).1
  obtain ⟨c, rfl⟩ : ∃ c : UInt8, a2 = (c.toNat : Int) := by
    have h : 0 ≤ a2 ∧ a2 < 256 := by
      simp [Lit.wf, IntKind.min, IntKind.max, IntKind.bits, IntKind.signed] at w2
      omega
    refine ⟨UInt8.ofNat a2.toNat, ?_⟩
    simp only [UInt8.toNat_ofNat']
    omega
  refine door_walk (tells3 l a1.data.toList c (by omega) (by simp; have e : a1.size = a1.data.size := rfl; omega) (by omega)) W hT [v0, .string a1, .int .u8 c.toNat] rfl fun i v d g1 g2 => ?_
  rcases i with _ | _ | _ | i
  · exact cl_1 (i := 0) c0 g1 g2
  · cases g1; cases g2; exact .str _
  · cases g1; cases g2; exact .int _ _
  · simp at g1
end Go.Proofs.Ut
