/-
  PARTS OF A PROOF, joined: an abstract machine for quiet code, its evaluation, and what the seat's functions answer on it. Conditions: none.
-/
import Derived.Test.YtbmognfolkhkpaaDoorW
set_option linter.unusedVariables false
set_option linter.unusedSimpArgs false
set_option maxRecDepth 100000
set_option maxHeartbeats 4000000
namespace Go.Abs
inductive CNode where
 | mk (op n : Int) (binds xk : List Int) (kids : List CNode) (alts : List CAlt)
theorem CNode.ind {P : CNode → Prop} (h : ∀ op n binds xk kids alts,(∀ k ∈ kids,P k) → P (.mk op n binds xk kids alts)) : ∀ t,P t
 | .mk op n binds xk kids alts => h op n binds xk kids alts fun k hk => CNode.ind h k
 termination_by t => SizeOf.sizeOf t
 decreasing_by
  have := List.sizeOf_lt_of_mem hk
  simp only [CNode.mk.sizeOf_spec]
  omega
section
variable {L : Lib} (hL : Plain L)
include hL
end
end Go.Abs
set_option linter.unusedVariables false
set_option linter.unusedSimpArgs false
set_option maxRecDepth 100000
set_option maxHeartbeats 4000000
namespace Go.Abs
theorem qiq : ∀ ks : List CTree,ks.length ≤ qa6 ks
 | [] => by rw [qa6]; simp
 | k :: ks => by rw [qa6,List.length_cons]; have := qf6 k; have := qiq ks; omega
section
variable {L : Lib} (hL : Plain L)
include hL
end
end Go.Abs
set_option linter.unusedVariables false
set_option linter.unusedSimpArgs false
set_option maxRecDepth 100000
set_option maxHeartbeats 4000000
namespace Go.Abs
section
variable {L : Lib} (hC : CLib2 L)
include hC
end
end Go.Abs
