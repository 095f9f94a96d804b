/- Grow by nothing. -/
import Derived.Test.YtgamnnfndidclaaGreatDoorBYOnce2
import Derived.Test.YtgamnnfndidclaaGreatDoorBYX2
set_option linter.all false
namespace Go.Ai
open Go.Proofs Go.Shelf Go.RowKit
variable {P:Program} {ρ:Ren}
end Go.Ai

namespace Go.Proofs.Ut
open Go.Ai
set_option maxRecDepth 100000
end Go.Proofs.Ut
