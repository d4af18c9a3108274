/-
  Equality of trees up to names, and Order: the walk. Conditions: none.
-/
import Derived.Test.YtciacognbcgfiaaDoorCoreT
set_option linter.unusedVariables false
set_option linter.unusedSimpArgs false
set_option maxRecDepth 100000
set_option maxHeartbeats 4000000
namespace Go.Abs
section
variable {L : Lib} (hL : Plain L)
include hL
end
end Go.Abs
