/-
  PARTS OF A PROOF, joined: an abstract machine for quiet code, its evaluation, and what the seat's functions answer on it. Conditions: none.
-/
import Derived.Test.YtbmognfolkhkpaaDoorHA
import Derived.Test.YtbmognfolkhkpaaDoorC
set_option linter.unusedVariables false
set_option linter.unusedSimpArgs false
set_option maxRecDepth 100000
set_option maxHeartbeats 4000000
namespace Go.Abs
def tOp:CTree→Int | .mk op _ _ _ _=>op
def tN:CTree→Int | .mk _ n _ _ _=>n
def qvi:CTree→List Int | .mk _ _ b _ _=>b
def qvk (t:CTree):Bool:=tOp t==1 || (tOp t==8 && (decide (tN t≤4) || tN t==9))
def qym (_:Nat) (k:Int) (a:CAlt):Except Bool Int:=if a.tag = -1 then .error true else if a.tag≤1 then (if a.binds=[] then .ok (k+1) else .error false) else .ok k
def qyn (as:List CAlt):Bool:=match qcr qym as 0 0 with | .ok k=>k==2 | .error b=>b
def qu9 (ks:List CTree):CTree:=ks.getD 0 .none
def qyu (ks:List CTree):CTree:=ks.getD 1 .none
def qs6 (ks:List CTree):Bool:=qvk (qu9 ks) && (decide (ks.length=1) || qvk (qyu ks))
def qo7 (n:Int) (ks:List CTree):Nat :=
 if n=7 then 3 else if n=8∨n=11 then 10 else if n=10 then 18 else if n=9 then 2
 else if n=3∨n=4 then (if qs6 ks=true∧tOp (qyu ks)=1∧tN (qyu ks)≠0 then 0 else 2)
 else if qs6 ks=true then 0 else 2
def qyo (ks:List CTree) (as:List CAlt):Bool:=(tOp (qu9 ks)==8 && (tN (qu9 ks)==5 || tN (qu9 ks)==6)) && qyn as
def qvd (op n:Int) (ks:List CTree) (as:List CAlt):Nat :=
 if op=17 then 2 else if op=8 then qo7 n ks
 else if op=3 then (if tOp (qu9 ks)≠2∨(qvi (qu9 ks)).length+1≠ks.length then 63 else 0)
 else if op=7 then (if qyo ks as=true then 0 else 2)
 else if op=10∨op=11 then (if tOp (qu9 ks)≠9∨(op=10∧qqA (qvi (qu9 ks)) n=false) then 2 else 0)
 else if op=12 then 6 else if op=13 then 63 else 0
section
end
section
end
section
end
theorem qxc (n:Int) (ks:List CTree):qo7 n ks<64:=by
 unfold qo7
 repeat' split
 all_goals omega
theorem own_lt (op n:Int) (ks:List CTree) (as:List CAlt):qvd op n ks as<64:=by
 unfold qvd
 have:=qxc n ks
 repeat' split
 all_goals omega
def qmU (x:CExpr) (K:AVal):AObj:=.box [.int .i64 x.op,.int .i64 x.n,.list (x.binds.map qaP) none,K,.list (x.alts.map qaM) none]
section
end
section
end
end Go.Abs
