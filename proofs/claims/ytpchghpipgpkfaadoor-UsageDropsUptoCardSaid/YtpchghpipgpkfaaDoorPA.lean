/-
  PARTS OF A PROOF, joined: an abstract machine for quiet code, its evaluation, and what the seat's functions answer on it. Conditions: none.
-/
import Derived.Test.YtpchghpipgpkfaaDoorHA
import Derived.Test.YtpchghpipgpkfaaDoorC
import Derived.Test.YtpchghpipgpkfaaDoorW
set_option linter.unusedVariables false
set_option linter.unusedSimpArgs false
set_option maxRecDepth 100000
set_option maxHeartbeats 4000000
namespace Go.Abs
def tOp:CTree→Int | .mk op _ _ _ _=>op
def tN:CTree→Int | .mk _ n _ _ _=>n
def qwv:CTree→List Int | .mk _ _ b _ _=>b
def qwy (t:CTree):Bool:=tOp t==1 || (tOp t==8 && (decide (tN t≤4) || tN t==9))
def qzV (_:Nat) (k:Int) (a:CAlt):Except Bool Int:=if a.tag = -1 then .error true else if a.tag≤1 then (if a.binds=[] then .ok (k+1) else .error false) else .ok k
def qzW (as:List CAlt):Bool:=match qbs qzV as 0 0 with | .ok k=>k==2 | .error b=>b
def qwn (ks:List CTree):CTree:=ks.getD 0 .none
def qz1 (ks:List CTree):CTree:=ks.getD 1 .none
def qut (ks:List CTree):Bool:=qwy (qwn ks) && (decide (ks.length=1) || qwy (qz1 ks))
def qpY (n:Int) (ks:List CTree):Nat :=
 if n=7 then 3 else if n=8∨n=11 then 10 else if n=10 then 18 else if n=9 then 2
 else if n=3∨n=4 then (if qut ks=true∧tOp (qz1 ks)=1∧tN (qz1 ks)≠0 then 0 else 2)
 else if qut ks=true then 0 else 2
def qzX (ks:List CTree) (as:List CAlt):Bool:=(tOp (qwn ks)==8 && (tN (qwn ks)==5 || tN (qwn ks)==6)) && qzW as
def qwr (op n:Int) (ks:List CTree) (as:List CAlt):Nat :=
 if op=17 then 2 else if op=8 then qpY n ks
 else if op=3 then (if tOp (qwn ks)≠2∨(qwv (qwn ks)).length+1≠ks.length then 63 else 0)
 else if op=7 then (if qzX ks as=true then 0 else 2)
 else if op=10∨op=11 then (if tOp (qwn ks)≠9∨(op=10∧qrH (qwv (qwn ks)) n=false) then 2 else 0)
 else if op=12 then 6 else if op=13 then 63 else 0
section
end
section
end
section
end
theorem qyw (n:Int) (ks:List CTree):qpY n ks<64:=by
 unfold qpY
 repeat' split
 all_goals omega
theorem own_lt (op n:Int) (ks:List CTree) (as:List CAlt):qwr op n ks as<64:=by
 unfold qwr
 have:=qyw n ks
 repeat' split
 all_goals omega
section
end
section
end
inductive CNode where
 | mk (op n:Int) (binds xk:List Int) (kids:List CNode) (alts:List CAlt)
def qdR:CNode→AVal
 | .mk op n binds xk kids alts=>.vptr [.int .i64 op,.int .i64 n,.list (binds.map qau) none,.list (xk.map qau) none,.list (alts.map qar) none,.list (kids.attach.map fun k=>qdR k.1) none] 0
 termination_by t=>SizeOf.sizeOf t
 decreasing_by
  have:=List.sizeOf_lt_of_mem k.2
  simp only[CNode.mk.sizeOf_spec]
  omega
def qhB:CNode→CTree
 | .mk op n binds xk kids alts=>.mk op n binds (kids.attach.map fun k=>qhB k.1) alts
 termination_by t=>SizeOf.sizeOf t
 decreasing_by
  have:=List.sizeOf_lt_of_mem k.2
  simp only[CNode.mk.sizeOf_spec]
  omega
theorem qlp (op n:Int) (binds xk:List Int) (kids:List CNode) (alts:List CAlt):qdR (.mk op n binds xk kids alts)=.vptr [.int .i64 op,.int .i64 n,.list (binds.map qau) none,.list (xk.map qau) none,.list (alts.map qar) none,.list (kids.map qdR) none] 0:=by
 rw[qdR]
 simp
theorem que (op n:Int) (binds xk:List Int) (kids:List CNode) (alts:List CAlt):qhB (.mk op n binds xk kids alts)=.mk op n binds (kids.map qhB) alts:=by
 rw[qhB]
 simp
theorem CNode.ind {P:CNode→Prop} (h:∀ op n binds xk kids alts,(∀ k∈kids,P k)→P (.mk op n binds xk kids alts)):∀ t,P t
 | .mk op n binds xk kids alts=>h op n binds xk kids alts fun k hk=>CNode.ind h k
 termination_by t=>SizeOf.sizeOf t
 decreasing_by
  have:=List.sizeOf_lt_of_mem hk
  simp only[CNode.mk.sizeOf_spec]
  omega
section
end
theorem qia:∀ ks:List CTree,ks.length≤qat ks
 | []=>by rw[qat];simp
 | k::ks=>by rw[qat,List.length_cons];have:=qfO k;have:=qia ks;omega
section
end
theorem qpm (t:CNode):acells (qdR t)=[qdR t]:=by cases t;rw[qlp];rfl
section
end
theorem qgl {op n:Int} {bl kl:Nat} {as:List CAlt} (h:qa3 op n bl kl as=true):(op=2→kl=1)∧((op=8∨op=3∨op=7∨op=10∨op=11)→0<kl)∧(op=8→¬ (n=7∨n=9)→1<kl):=by
 by_cases ho:op=7∨op=13
 ·have:=(qeF h).1 ho
  exact⟨fun h2=>by omega,fun _=>by omega,fun h8=>by omega⟩
 ·unfold qa3 at h
  rw[if_neg ho] at h
  split at h
  ·cases h
  ·rename_i r hr
   unfold qbJ at h
   simp only[Bool.and_eq_true,beq_iff_eq] at h
   have hk:=h.1.1.1
   unfold kbu at hr
   refine⟨fun h2=>?_,fun hh=>?_,fun h8 hn=>?_⟩
   ·subst h2
    simp at hr
    rw[← hr] at hk
    simp at hk
    omega
   ·rcases hh with rfl | rfl | rfl | rfl | rfl
    ·simp only[show ¬((8:Int)=0∨(8:Int)=1∨(8:Int)=17) by omega,show ¬(8:Int)=2 by omega,show ¬(8:Int)=3 by omega,show ¬(8:Int)=4 by omega,show ¬(8:Int)=5 by omega,show ¬(8:Int)=6 by omega,if_true,if_false] at hr
     split at hr
     ·injection hr with hr
      rw[← hr] at hk
      dsimp only at hk
      unfold qjj at hk
      split at hk
      ·omega
      ·split at hk<;>omega
     ·cases hr
    ·simp at hr
     rw[← hr] at hk
     dsimp only at hk
     omega
    ·omega
    ·simp at hr
     rw[← hr] at hk
     simp at hk
     omega
    ·simp at hr
     rw[← hr] at hk
     simp at hk
     omega
   ·subst h8
    simp only[show ¬((8:Int)=0∨(8:Int)=1∨(8:Int)=17) by omega,show ¬(8:Int)=2 by omega,show ¬(8:Int)=3 by omega,show ¬(8:Int)=4 by omega,show ¬(8:Int)=5 by omega,show ¬(8:Int)=6 by omega,if_true,if_false] at hr
    split at hr
    ·injection hr with hr
     rw[← hr] at hk
     dsimp only at hk
     unfold qjj at hk
     rw[if_neg hn] at hk
     split at hk<;>omega
    ·cases hr
section
end
end Go.Abs
