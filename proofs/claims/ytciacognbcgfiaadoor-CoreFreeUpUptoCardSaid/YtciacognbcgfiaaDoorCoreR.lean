/-
  The list of a tree: the walk. Conditions: none.
-/
import Derived.Test.YtciacognbcgfiaaDoorCoreQ
import Derived.Test.YtciacognbcgfiaaDoorC
set_option linter.unusedVariables false
set_option linter.unusedSimpArgs false
set_option maxRecDepth 100000
set_option maxHeartbeats 4000000
namespace Go.Abs
section
variable {L : Lib} (hL : Plain L)
include hL
/-- The heap where the list was empty: as soon as a kid is laid, both lists have room. -/
def hB (op n : Int) (binds : List Int) (outs : List CExpr) (ids : List Int) (j : Nat) : Heap :=
  if j = 0 then [.box [.func 187 [] [.ptr (some (0, 0)), .ptr (some (1, 0))]], .box [.list [] (some none)], .box [.int .i64 op, .int .i64 n, .list (binds.map encI) none, .list [] (some none), .list [] (some none)]]
  else [.box [.func 187 [] [.ptr (some (0, 0)), .ptr (some (1, 0))]], .box [.list (outs.map encExpr) (some (some 3))], .box [.int .i64 op, .int .i64 n, .list (binds.map encI) none, .list (ids.map encI) (some (some 4)), .list [] (some none)], .tail outs.length 5, .tail j 1]
end
end Go.Abs
