/-
  Rewriting: the value of a primitive, the field of a record, what a case selects. Conditions: none.
-/
import Derived.Test.YtjbgooldkkbdmaaDoorRD
set_option linter.unusedVariables false
set_option linter.unusedSimpArgs false
set_option maxRecDepth 100000
set_option maxHeartbeats 4000000
namespace Go.Abs
section
end
end Go.Abs
