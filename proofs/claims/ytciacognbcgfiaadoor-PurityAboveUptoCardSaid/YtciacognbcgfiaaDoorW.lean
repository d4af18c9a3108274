/-
  PARTS OF A PROOF, joined: an abstract machine for quiet code, its evaluation, and what the seat's functions answer on it. Conditions: none.
-/
import Derived.Test.YtciacognbcgfiaaDoorCoreV
import Derived.Test.YtciacognbcgfiaaDoorC
/-
  The tree of a part, its size, and the calls that tell of it. Conditions: none.
-/
set_option linter.unusedVariables false
set_option linter.unusedSimpArgs false
set_option maxRecDepth 100000
set_option maxHeartbeats 4000000
namespace Go.Abs
section
variable {L : Lib} (hL : Plain L)
include hL
end
section
variable {L : Lib} (hC : CLib2 L)
include hC
end
end Go.Abs
/-
  Free, Size and Cut, and the law CoreCut on the machine. Conditions: none.
-/
set_option linter.unusedVariables false
set_option linter.unusedSimpArgs false
set_option maxRecDepth 100000
set_option maxHeartbeats 4000000
namespace Go.Abs
section
variable {L : Lib} (hC : CLib2 L)
include hC
end
end Go.Abs
/-
  What is free in a tree: membership, without the machine. Conditions: none.
-/
set_option linter.unusedVariables false
set_option linter.unusedSimpArgs false
set_option maxRecDepth 100000
namespace Go.Abs
def NN (b : IM Int) : Prop := ∀ u, 0 ≤ bget u b
theorem NN.up {b : IM Int} (h : NN b) (l : List Int) : NN (l.foldl (incr 1) b) := by
  intro u
  rw [bget_incrs]
  have := h u
  unfold cntI
  omega
end Go.Abs
