/-
  PARTS OF A PROOF, joined: an abstract machine for quiet code, its evaluation, and what the seat's functions answer on it. Conditions: none.
-/
import Derived.Test.YtjbgooldkkbdmaaDoorHA
import Derived.Test.YtjbgooldkkbdmaaDoorC
import Derived.Test.YtjbgooldkkbdmaaDoorW
set_option linter.unusedVariables false
set_option linter.unusedSimpArgs false
set_option maxRecDepth 100000
set_option maxHeartbeats 4000000
namespace Go.Abs
def tOp:CTree→Int | .mk op _ _ _ _=>op
def tN:CTree→Int | .mk _ n _ _ _=>n
def qu6:CTree→List Int | .mk _ _ b _ _=>b
def qu7 (t:CTree):Bool:=tOp t==1 || (tOp t==8 && (decide (tN t≤4) || tN t==9))
def qx3 (_:Nat) (k:Int) (a:CAlt):Except Bool Int:=if a.tag = -1 then .error true else if a.tag≤1 then (if a.binds=[] then .ok (k+1) else .error false) else .ok k
def qx4 (as:List CAlt):Bool:=match qbq qx3 as 0 0 with | .ok k=>k==2 | .error b=>b
def quZ (ks:List CTree):CTree:=ks.getD 0 .none
def qyb (ks:List CTree):CTree:=ks.getD 1 .none
def qsY (ks:List CTree):Bool:=qu7 (quZ ks) && (decide (ks.length=1) || qu7 (qyb ks))
def qoe (n:Int) (ks:List CTree):Nat :=
 if n=7 then 3 else if n=8∨n=11 then 10 else if n=10 then 18 else if n=9 then 2
 else if n=3∨n=4 then (if qsY ks=true∧tOp (qyb ks)=1∧tN (qyb ks)≠0 then 0 else 2)
 else if qsY ks=true then 0 else 2
def qx5 (ks:List CTree) (as:List CAlt):Bool:=(tOp (quZ ks)==8 && (tN (quZ ks)==5 || tN (quZ ks)==6)) && qx4 as
def qu2 (op n:Int) (ks:List CTree) (as:List CAlt):Nat :=
 if op=17 then 2 else if op=8 then qoe n ks
 else if op=3 then (if tOp (quZ ks)≠2∨(qu6 (quZ ks)).length+1≠ks.length then 63 else 0)
 else if op=7 then (if qx5 ks as=true then 0 else 2)
 else if op=10∨op=11 then (if tOp (quZ ks)≠9∨(op=10∧qpS (qu6 (quZ ks)) n=false) then 2 else 0)
 else if op=12 then 6 else if op=13 then 63 else 0
section
end
section
end
section
end
theorem qwz (n:Int) (ks:List CTree):qoe n ks<64:=by
 unfold qoe
 repeat' split
 all_goals omega
theorem own_lt (op n:Int) (ks:List CTree) (as:List CAlt):qu2 op n ks as<64:=by
 unfold qu2
 have:=qwz n ks
 repeat' split
 all_goals omega
section
end
section
end
inductive CNode where
 | mk (op n:Int) (binds xk:List Int) (kids:List CNode) (alts:List CAlt)
theorem CNode.ind {P:CNode→Prop} (h:∀ op n binds xk kids alts,(∀ k∈kids,P k)→P (.mk op n binds xk kids alts)):∀ t,P t
 | .mk op n binds xk kids alts=>h op n binds xk kids alts fun k hk=>CNode.ind h k
 termination_by t=>SizeOf.sizeOf t
 decreasing_by
  have:=List.sizeOf_lt_of_mem hk
  simp only[CNode.mk.sizeOf_spec]
  omega
section
end
section
end
section
end
section
end
end Go.Abs
