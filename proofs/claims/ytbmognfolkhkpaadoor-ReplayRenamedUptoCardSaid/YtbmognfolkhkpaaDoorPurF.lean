/-
  The effects of all nodes, on the machine. Conditions: none.
-/
import Derived.Test.YtbmognfolkhkpaaDoorPA
import Derived.Test.YtbmognfolkhkpaaDoorNA
set_option linter.unusedVariables false
set_option linter.unusedSimpArgs false
set_option maxRecDepth 100000
set_option maxHeartbeats 4000000
namespace Go.Abs
section
end
end Go.Abs
