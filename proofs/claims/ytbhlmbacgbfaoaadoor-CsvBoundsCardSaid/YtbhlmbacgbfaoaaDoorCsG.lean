/- The call of the law of bounds. -/
import Derived.Test.YtbhlmbacgbfaoaaDoorCsF
set_option linter.all false
namespace Go.Proofs.Ut
open Go.Ai Classical Go.Shelf Go.RowKit
theorem bounds_walk (W : World) (hT : Lib.Utf8Tabs 0 1 W) (a0 : Int) (_ : (Lit.int IntKind.i64 a0).wf = true) (a1 : Int) (_ : (Lit.int IntKind.i64 a1).wf = true) (a2 : Int) (_ : (Lit.int IntKind.i64 a2).wf = true) :
    Calls Tryd.prog 13 #[.int .i64 a0, .int .i64 a1, .int .i64 a2] W fun e W' => e = .returned (.bool true) ∧ Below W.heap.size W W' :=
  door_walk (bounds13 a0 a1 a2) W hT [.int .i64 a0, .int .i64 a1, .int .i64 a2] rfl fun i v d hv hd => by
    match i, hv, hd with
    | 0, hv, hd => cases hv; cases hd; exact .int _ _
    | 1, hv, hd => cases hv; cases hd; exact .int _ _
    | 2, hv, hd => cases hv; cases hd; exact .int _ _
end Go.Proofs.Ut
