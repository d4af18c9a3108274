/-
  PARTS OF A PROOF, joined: an abstract machine for quiet code, its evaluation, and what the seat's functions answer on it. Conditions: none.
-/
import Derived.Test.YtpchghpipgpkfaaDoorHA
import Derived.Test.YtpchghpipgpkfaaDoorC
set_option linter.unusedVariables false
set_option linter.unusedSimpArgs false
set_option maxRecDepth 100000
set_option maxHeartbeats 4000000
namespace Go.Abs
def tOp:CTree→Int | .mk op _ _ _ _=>op
def tN:CTree→Int | .mk _ n _ _ _=>n
def qvw:CTree→List Int | .mk _ _ b _ _=>b
def qvy (t:CTree):Bool:=tOp t==1 || (tOp t==8 && (decide (tN t≤4) || tN t==9))
def qyS (_:Nat) (k:Int) (a:CAlt):Except Bool Int:=if a.tag = -1 then .error true else if a.tag≤1 then (if a.binds=[] then .ok (k+1) else .error false) else .ok k
def qyT (as:List CAlt):Bool:=match qbr qyS as 0 0 with | .ok k=>k==2 | .error b=>b
def qvm (ks:List CTree):CTree:=ks.getD 0 .none
def qy0 (ks:List CTree):CTree:=ks.getD 1 .none
def qtj (ks:List CTree):Bool:=qvy (qvm ks) && (decide (ks.length=1) || qvy (qy0 ks))
def qow (n:Int) (ks:List CTree):Nat :=
 if n=7 then 3 else if n=8∨n=11 then 10 else if n=10 then 18 else if n=9 then 2
 else if n=3∨n=4 then (if qtj ks=true∧tOp (qy0 ks)=1∧tN (qy0 ks)≠0 then 0 else 2)
 else if qtj ks=true then 0 else 2
def qyU (ks:List CTree) (as:List CAlt):Bool:=(tOp (qvm ks)==8 && (tN (qvm ks)==5 || tN (qvm ks)==6)) && qyT as
def qvq (op n:Int) (ks:List CTree) (as:List CAlt):Nat :=
 if op=17 then 2 else if op=8 then qow n ks
 else if op=3 then (if tOp (qvm ks)≠2∨(qvw (qvm ks)).length+1≠ks.length then 63 else 0)
 else if op=7 then (if qyU ks as=true then 0 else 2)
 else if op=10∨op=11 then (if tOp (qvm ks)≠9∨(op=10∧qqQ (qvw (qvm ks)) n=false) then 2 else 0)
 else if op=12 then 6 else if op=13 then 63 else 0
section
end
section
end
section
end
theorem qxy (n:Int) (ks:List CTree):qow n ks<64:=by
 unfold qow
 repeat' split
 all_goals omega
theorem own_lt (op n:Int) (ks:List CTree) (as:List CAlt):qvq op n ks as<64:=by
 unfold qvq
 have:=qxy n ks
 repeat' split
 all_goals omega
section
end
section
end
end Go.Abs
