/-
  PARTS OF A PROOF, joined: an abstract machine for quiet code, its evaluation, and what the seat's functions answer on it. Conditions: none.
-/
import Derived.Test.YtbmognfolkhkpaaDoorHA
import Derived.Test.YtbmognfolkhkpaaDoorC
set_option linter.unusedVariables false
set_option linter.unusedSimpArgs false
set_option maxRecDepth 100000
set_option maxHeartbeats 4000000
namespace Go.Abs
def tOp:CTree→Int | .mk op _ _ _ _=>op
def tN:CTree→Int | .mk _ n _ _ _=>n
def qvD:CTree→List Int | .mk _ _ b _ _=>b
def qvF (t:CTree):Bool:=tOp t==1 || (tOp t==8 && (decide (tN t≤4) || tN t==9))
def qyK (_:Nat) (k:Int) (a:CAlt):Except Bool Int:=if a.tag = -1 then .error true else if a.tag≤1 then (if a.binds=[] then .ok (k+1) else .error false) else .ok k
def qyL (as:List CAlt):Bool:=match qcx qyK as 0 0 with | .ok k=>k==2 | .error b=>b
def qvw (ks:List CTree):CTree:=ks.getD 0 .none
def qyR (ks:List CTree):CTree:=ks.getD 1 .none
def qtD (ks:List CTree):Bool:=qvF (qvw ks) && (decide (ks.length=1) || qvF (qyR ks))
def qpE (n:Int) (ks:List CTree):Nat :=
 if n=7 then 3 else if n=8∨n=11 then 10 else if n=10 then 18 else if n=9 then 2
 else if n=3∨n=4 then (if qtD ks=true∧tOp (qyR ks)=1∧tN (qyR ks)≠0 then 0 else 2)
 else if qtD ks=true then 0 else 2
def qyM (ks:List CTree) (as:List CAlt):Bool:=(tOp (qvw ks)==8 && (tN (qvw ks)==5 || tN (qvw ks)==6)) && qyL as
def qvz (op n:Int) (ks:List CTree) (as:List CAlt):Nat :=
 if op=17 then 2 else if op=8 then qpE n ks
 else if op=3 then (if tOp (qvw ks)≠2∨(qvD (qvw ks)).length+1≠ks.length then 63 else 0)
 else if op=7 then (if qyM ks as=true then 0 else 2)
 else if op=10∨op=11 then (if tOp (qvw ks)≠9∨(op=10∧qrC (qvD (qvw ks)) n=false) then 2 else 0)
 else if op=12 then 6 else if op=13 then 63 else 0
section
end
section
end
section
end
theorem qxA (n:Int) (ks:List CTree):qpE n ks<64:=by
 unfold qpE
 repeat' split
 all_goals omega
theorem own_lt (op n:Int) (ks:List CTree) (as:List CAlt):qvz op n ks as<64:=by
 unfold qvz
 have:=qxA n ks
 repeat' split
 all_goals omega
def qnj (x:CExpr) (K:AVal):AObj:=.box [.int .i64 x.op,.int .i64 x.n,.list (x.binds.map qaY) none,K,.list (x.alts.map qaU) none]
section
end
section
end
end Go.Abs
