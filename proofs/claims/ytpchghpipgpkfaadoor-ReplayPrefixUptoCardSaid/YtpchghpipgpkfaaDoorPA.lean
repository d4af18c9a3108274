/-
  PARTS OF A PROOF, joined: an abstract machine for quiet code, its evaluation, and what the seat's functions answer on it. Conditions: none.
-/
import Derived.Test.YtpchghpipgpkfaaDoorHA
import Derived.Test.YtpchghpipgpkfaaDoorC
set_option linter.unusedVariables false
set_option linter.unusedSimpArgs false
set_option maxRecDepth 100000
set_option maxHeartbeats 4000000
namespace Go.Abs
def tOp:CTree→Int | .mk op _ _ _ _=>op
def tN:CTree→Int | .mk _ n _ _ _=>n
def qvO:CTree→List Int | .mk _ _ b _ _=>b
def qvQ (t:CTree):Bool:=tOp t==1 || (tOp t==8 && (decide (tN t≤4) || tN t==9))
def qze (_:Nat) (k:Int) (a:CAlt):Except Bool Int:=if a.tag = -1 then .error true else if a.tag≤1 then (if a.binds=[] then .ok (k+1) else .error false) else .ok k
def qzf (as:List CAlt):Bool:=match qbv qze as 0 0 with | .ok k=>k==2 | .error b=>b
def qvE (ks:List CTree):CTree:=ks.getD 0 .none
def qzm (ks:List CTree):CTree:=ks.getD 1 .none
def qtF (ks:List CTree):Bool:=qvQ (qvE ks) && (decide (ks.length=1) || qvQ (qzm ks))
def qoM (n:Int) (ks:List CTree):Nat :=
 if n=7 then 3 else if n=8∨n=11 then 10 else if n=10 then 18 else if n=9 then 2
 else if n=3∨n=4 then (if qtF ks=true∧tOp (qzm ks)=1∧tN (qzm ks)≠0 then 0 else 2)
 else if qtF ks=true then 0 else 2
def qzg (ks:List CTree) (as:List CAlt):Bool:=(tOp (qvE ks)==8 && (tN (qvE ks)==5 || tN (qvE ks)==6)) && qzf as
def qvI (op n:Int) (ks:List CTree) (as:List CAlt):Nat :=
 if op=17 then 2 else if op=8 then qoM n ks
 else if op=3 then (if tOp (qvE ks)≠2∨(qvO (qvE ks)).length+1≠ks.length then 63 else 0)
 else if op=7 then (if qzg ks as=true then 0 else 2)
 else if op=10∨op=11 then (if tOp (qvE ks)≠9∨(op=10∧qrc (qvO (qvE ks)) n=false) then 2 else 0)
 else if op=12 then 6 else if op=13 then 63 else 0
section
end
section
end
section
end
theorem qxP (n:Int) (ks:List CTree):qoM n ks<64:=by
 unfold qoM
 repeat' split
 all_goals omega
theorem own_lt (op n:Int) (ks:List CTree) (as:List CAlt):qvI op n ks as<64:=by
 unfold qvI
 have:=qxP n ks
 repeat' split
 all_goals omega
section
end
section
end
end Go.Abs
