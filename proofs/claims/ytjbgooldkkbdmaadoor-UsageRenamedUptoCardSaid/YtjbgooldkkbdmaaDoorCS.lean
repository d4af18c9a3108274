/-
  PARTS OF A PROOF, joined: an abstract machine for quiet code, its evaluation, and what the seat's functions answer on it. Conditions: none.
-/
import Derived.Test.YtjbgooldkkbdmaaDoorCQ
set_option linter.unusedVariables false
set_option linter.unusedSimpArgs false
set_option maxRecDepth 100000
set_option maxHeartbeats 4000000
namespace Go.Abs
section
end
section
end
section
def qs8 (as:List CAlt) (i:Nat) (a:CAlt):Bool:=match as[i]? with | some c => !(a.tag==c.tag) || !((a.binds.length:Int)==c.binds.length) | none=>false
def qqM (as cs:List CAlt):Bool:=(qaF (fun i a=>if qs8 cs i a=true then some () else none) as 0).isSome
def qr9 (l l':List Int) (m:IM Int):IM Int:=(l.zip l').foldl (fun m p=>qgw p.1 p.2 m) m
def qsO (n n':Int) (m:IM Int):Bool:=match qaI n m with | some x=>x==n' | none=>n==n'
mutual
def quB:CTree→CTree→IM Int→Bool × IM Int
 | .mk op n binds kids alts,.mk op' n' binds' kids' alts',m =>
   if op≠op'∨kids.length≠kids'.length∨binds.length≠binds'.length∨alts.length≠alts'.length then (false,m)
   else if op=0 then (qsO n n' m,m)
   else if n≠n'∨(op=9∧binds≠binds') then (false,m)
   else if qqM alts alts'=true then (false,m)
   else qpm kids kids' (qr9 (qaz op binds alts) (qaz op' binds' alts') m)
def qpm:List CTree→List CTree→IM Int→Bool × IM Int
 | [],_,m=>(true,m)
 | k :: ks,l,m => match l with
   | []=>(true,m)
   | k'::ks'=>(match quB k k' m with | (true,m1)=>qpm ks ks' m1 | (false,m1)=>(false,m1))
end
end
section
end
end Go.Abs
