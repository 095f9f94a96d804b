/- Grow by nothing. -/
import Derived.Test.YtgamnnfndidclaaGreatDoorCYOnce2
import Derived.Test.YtgamnnfndidclaaGreatDoorCYX2
set_option linter.all false
namespace Go.Ai
open Go.Proofs Go.Shelf Go.RowKit
variable {P:Program} {ρ:Ren}
end Go.Ai

namespace Go.Proofs.Ut
open Go.Ai
set_option maxRecDepth 100000
end Go.Proofs.Ut
