/- What comes in, as plain data: numbers, texts, rows of them, structs of them. -/
import Derived.Test.YtgamnnfndidclaaGreatDoorYFoRow
import Derived.ChangeArms
import Derived.ChangeSlices
import Derived.Deep.DeepHandedRow
set_option linter.all false
namespace Go.Ai
inductive AT where
  | int (k : IntKind)
  | str
  | bool
  | sl (e : AT)
  | st (l : List AT)
def AT.cells : AT → Nat
  | .st l => cellsL l
  | _ => 1
where cellsL : List AT → Nat
  | [] => 0
  | a :: l => a.cells + cellsL l
def AT.has : AT → List DV → Prop
  | .int k, ds => ∃ n, ds = [.int k n] ∧ (Lit.int k n).wf = true
  | .str, ds => ∃ s : List UInt8, ds = [.str s] ∧ s.length ≤ maxLen
  | .bool, ds => ∃ b, ds = [.bool b]
  | .sl e, ds => ∃ es, ds = [.sl e.cells es] ∧ es.length ≤ maxLen ∧ ∀ x ∈ es, e.has x
  | .st l, ds => hasL l ds
where hasL : List AT → List DV → Prop
  | [], ds => ds = []
  | a :: l, ds => ∃ x y, ds = x ++ y ∧ a.has x ∧ hasL l y
mutual
def AT.fits (P : Program) : AT → TypeId → Bool
  | .int k, t => match P.underlying t with | some (.int k') => k == k' | _ => false
  | .str, t => match P.underlying t with | some .string => true | _ => false
  | .bool, t => match P.underlying t with | some .bool => true | _ => false
  | .sl e, t => match P.underlying t with | some (.slice t') => e.fits P t' && P.cellsOf t' == e.cells && decide (0 < e.cells) | _ => false
  | .st l, t => match P.underlying t with | some (.struct fs) => AT.fitsL P l fs.toList 0 && P.cellsOf t == AT.cells.cellsL l | _ => false
def AT.fitsL (P : Program) : List AT → List Field → Nat → Bool
  | [], [], _ => true
  | a :: l, f :: fs, o => f.offset == o && P.cellsOf f.type == a.cells && a.fits P f.type && AT.fitsL P l fs (o + a.cells)
  | _, _, _ => false
end
def Cl (w : World) (cs : List Value) (ds : List DV) : Prop := cs.length = ds.length ∧ ∀ (i : Nat) v d, cs[i]? = some v → ds[i]? = some d → v.oneCell' = true ∧ Rep w (fun b => b < w.heap.size) noLoc v d
theorem Cl.nil {w : World} : Cl w [] [] := ⟨rfl, fun i v d h => by simp at h⟩
theorem Cl.one {w : World} {v : Value} {d : DV} (h1 : v.oneCell' = true) (h : Rep w (fun b => b < w.heap.size) noLoc v d) : Cl w [v] [d] := ⟨rfl, fun i v' d' hv hd => by
  rcases i with _ | i
  · simp at hv hd; subst hv; subst hd; exact ⟨h1, h⟩
  · simp at hv⟩
section
variable {H : Type} {enc : TypeId × Value → H} {P : Program} {w : World} {base : Nat} {spare : Nat → Bool} {held : Bool}
end
end Go.Ai

/- The call of ContactParts. -/
namespace Go.Proofs.Ut
open Go.Ai Classical Go.Shelf Go.RowKit
theorem cparts_walk (W : World) (hT : Laid W) (a0 : ByteArray) (h0 : a0.size ≤ 1048576) (a1 : ByteArray) (h1 : a1.size ≤ 1048576) (a2 : Int) (_ : (Lit.int IntKind.i64 a2).wf = true) (a3 : Int) (_ : (Lit.int IntKind.i64 a3).wf = true) :
    Calls Tryz.prog 9 #[.string a0, .string a1, .int .i64 a2, .int .i64 a3] W fun e W' => e = .returned (.bool true) ∧ Below W.heap.size W W' :=
  door_walk (parts9 a0.data.toList a1.data.toList a2 a3 (by simp; have e : a0.size = a0.data.size := rfl; omega) (by simp; have e : a1.size = a1.data.size := rfl; omega)) W hT [.string a0, .string a1, .int .i64 a2, .int .i64 a3] rfl fun i v d h1 h2 => by
    rcases i with _ | _ | _ | _ | i
    · cases h1; cases h2; exact .str _
    · cases h1; cases h2; exact .str _
    · cases h1; cases h2; exact .int _ _
    · cases h1; cases h2; exact .int _ _
    · simp at h1
end Go.Proofs.Ut

/- Arguments opened, and what they weigh. -/
namespace Go.Ai
section
variable {H : Type} {enc : TypeId × Value → H} {P : Program} {w : World} {base : Nat} {spare : Nat → Bool} {held : Bool}
end
end Go.Ai

/- What comes in, as plain data, and what it weighs. -/
namespace Go.Ai
section
variable {H : Type} {enc : TypeId × Value → H} {P : Program} {w : World} {base : Nat} {spare : Nat → Bool} {held : Bool}
end
end Go.Ai

/- A witness of a row, the world's shape kept. -/
namespace Go.Proofs.Ut
open Go.Ai Classical Go.Shelf Go.RowKit
theorem witness_row_sh {H : Type} {enc : TypeId × Value → H} {C : Checked} {os : Os} {f : FuncId} {fn : Func} {s : OpenSpec} {conds : List PathCond} {apart : Bool} {laid : List (String × DataW Unit)} (modest : Bool) (w0 : World) (args : Array Value) (hos : w0.os = os)
    (hsh : (w0.forCall (fun _ _ => 0) ⟨#[], args, []⟩).Shaped C.prog)
    (hok : Input.okWideB C.prog (w0.forCall (fun _ _ => 0) ⟨#[], args, []⟩) f ⟨#[], args, []⟩ = true)
    (hrow : s.preRow enc C.prog fn conds apart laid (w0.forCall (fun _ _ => 0) ⟨#[], args, []⟩).memory args) :
    ∃ (w : World) (tape : Tape) (i : Input), w.os = os ∧ (w.forCall tape i).Shaped C.prog ∧ i.vars = [] ∧ Input.okWide C.prog (w.forCall tape i) .any w.heap.size f i ∧
      s.preRow enc C.prog fn conds apart laid (w.forCall tape i).memory i.args ∧ ({ modest := modest } : Assume).holds C.prog (lone (Frame.enter C.prog f i.args .normal) [] (w.forCall tape i)) :=
  ⟨w0, fun _ _ => 0, ⟨#[], args, []⟩, hos, hsh, (Input.okWide_of_okWideB (base := 0) hok).1, (Input.okWide_of_okWideB hok).2, hrow, by
    simp only [Assume.holds]
    exact ⟨by simp, by simp, fun _ => Modest.zero, by simp, by simp⟩⟩
end Go.Proofs.Ut
