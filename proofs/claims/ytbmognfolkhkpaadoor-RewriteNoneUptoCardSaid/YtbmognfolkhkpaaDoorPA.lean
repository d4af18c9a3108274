/-
  PARTS OF A PROOF, joined: an abstract machine for quiet code, its evaluation, and what the seat's functions answer on it. Conditions: none.
-/
import Derived.Test.YtbmognfolkhkpaaDoorHA
import Derived.Test.YtbmognfolkhkpaaDoorC
set_option linter.unusedVariables false
set_option linter.unusedSimpArgs false
set_option maxRecDepth 100000
set_option maxHeartbeats 4000000
namespace Go.Abs
def tOp : CTree → Int | .mk op _ _ _ _ => op
def tN : CTree → Int | .mk _ n _ _ _ => n
def qul : CTree → List Int | .mk _ _ b _ _ => b
def qun (t : CTree) : Bool := tOp t == 1 || (tOp t == 8 && (decide (tN t ≤ 4) || tN t == 9))
def qxd (_ : Nat) (k : Int) (a : CAlt) : Except Bool Int := if a.tag = -1 then .error true else if a.tag ≤ 1 then (if a.binds = [] then .ok (k + 1) else .error false) else .ok k
def qxe (as : List CAlt) : Bool := match qcl qxd as 0 0 with | .ok k => k == 2 | .error b => b
def que (ks : List CTree) : CTree := ks.getD 0 .none
def qxw (ks : List CTree) : CTree := ks.getD 1 .none
def qso (ks : List CTree) : Bool := qun (que ks) && (decide (ks.length = 1) || qun (qxw ks))
def qox (n : Int) (ks : List CTree) : Nat :=
 if n = 7 then 3 else if n = 8 ∨ n = 11 then 10 else if n = 10 then 18 else if n = 9 then 2
 else if n = 3 ∨ n = 4 then (if qso ks = true ∧ tOp (qxw ks) = 1 ∧ tN (qxw ks) ≠ 0 then 0 else 2)
 else if qso ks = true then 0 else 2
def qxf (ks : List CTree) (as : List CAlt) : Bool := (tOp (que ks) == 8 && (tN (que ks) == 5 || tN (que ks) == 6)) && qxe as
def quh (op n : Int) (ks : List CTree) (as : List CAlt) : Nat :=
 if op = 17 then 2 else if op = 8 then qox n ks
 else if op = 3 then (if tOp (que ks) ≠ 2 ∨ (qul (que ks)).length + 1 ≠ ks.length then 63 else 0)
 else if op = 7 then (if qxf ks as = true then 0 else 2)
 else if op = 10 ∨ op = 11 then (if tOp (que ks) ≠ 9 ∨ (op = 10 ∧ qqr (qul (que ks)) n = false) then 2 else 0)
 else if op = 12 then 6 else if op = 13 then 63 else 0
section
variable {L : Lib} (hC : CLib2 L)
include hC
end
end Go.Abs
set_option linter.unusedVariables false
set_option linter.unusedSimpArgs false
set_option maxRecDepth 100000
set_option maxHeartbeats 4000000
namespace Go.Abs
section
variable {L : Lib} (hC : CLib2 L)
include hC
end
end Go.Abs
set_option linter.unusedVariables false
set_option linter.unusedSimpArgs false
set_option maxRecDepth 100000
set_option maxHeartbeats 4000000
namespace Go.Abs
section
variable {L : Lib} (hC : CLib2 L)
include hC
end
theorem qv6 (n : Int) (ks : List CTree) : qox n ks < 64 := by
 unfold qox
 repeat' split
 all_goals omega
theorem own_lt (op n : Int) (ks : List CTree) (as : List CAlt) : quh op n ks as < 64 := by
 unfold quh
 have := qv6 n ks
 repeat' split
 all_goals omega
end Go.Abs
set_option linter.unusedVariables false
set_option linter.unusedSimpArgs false
set_option maxRecDepth 100000
set_option maxHeartbeats 4000000
namespace Go.Abs
section
variable {L : Lib}
end
end Go.Abs
set_option linter.unusedVariables false
set_option linter.unusedSimpArgs false
set_option maxRecDepth 100000
set_option maxHeartbeats 4000000
namespace Go.Abs
section
variable {L : Lib}
end
end Go.Abs
