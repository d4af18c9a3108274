/-
  The law CoreFreeUp on the machine. Conditions: none.
-/
import Derived.Test.YtciacognbcgfiaaDoorW
import Derived.Test.YtciacognbcgfiaaDoorC
set_option linter.unusedVariables false
set_option linter.unusedSimpArgs false
set_option maxRecDepth 100000
set_option maxHeartbeats 4000000
namespace Go.Abs
theorem view_ints (h : Heap) (n : Nat) (l : List Int) : (l.map encI).map (view1 h n) = l.map encI := by
  rw [List.map_map]
  refine List.map_congr_left fun x _ => ?_
  show view1 h n (encI x) = encI x
  cases n <;> rw [view1, if_pos (show isData (encI x) = true from rfl)] <;> rfl
theorem leaf_ints (l : List Int) : (l.map encI).all leaf = true := by
  rw [List.all_eq_true]
  intro x hx
  obtain ⟨y, _, rfl⟩ := List.mem_map.1 hx
  rfl
section
variable {L : Lib} (hC : CLib2 L)
include hC
end
def wA (acc : List Int) : Heap := if acc = [] then [] else [.vec (acc.map encI) 1]
section
variable {L : Lib} (hC : CLib2 L)
include hC
end
section
variable {L : Lib} (hC : CLib2 L)
include hC
end
end Go.Abs
