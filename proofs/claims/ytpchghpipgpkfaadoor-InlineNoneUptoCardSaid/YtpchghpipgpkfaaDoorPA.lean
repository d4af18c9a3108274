/-
  PARTS OF A PROOF, joined: an abstract machine for quiet code, its evaluation, and what the seat's functions answer on it. Conditions: none.
-/
import Derived.Test.YtpchghpipgpkfaaDoorHA
import Derived.Test.YtpchghpipgpkfaaDoorC
import Derived.Test.YtpchghpipgpkfaaDoorW
set_option linter.unusedVariables false
set_option linter.unusedSimpArgs false
set_option maxRecDepth 100000
set_option maxHeartbeats 4000000
namespace Go.Abs
def tOp:CTree→Int | .mk op _ _ _ _=>op
def tN:CTree→Int | .mk _ n _ _ _=>n
def qwQ:CTree→List Int | .mk _ _ b _ _=>b
def qwU (t:CTree):Bool:=tOp t==1 || (tOp t==8 && (decide (tN t≤4) || tN t==9))
def qAi (_:Nat) (k:Int) (a:CAlt):Except Bool Int:=if a.tag = -1 then .error true else if a.tag≤1 then (if a.binds=[] then .ok (k+1) else .error false) else .ok k
def qAj (as:List CAlt):Bool:=match qbx qAi as 0 0 with | .ok k=>k==2 | .error b=>b
def qwC (ks:List CTree):CTree:=ks.getD 0 .none
def qAq (ks:List CTree):CTree:=ks.getD 1 .none
def quR (ks:List CTree):Bool:=qwU (qwC ks) && (decide (ks.length=1) || qwU (qAq ks))
def qp3 (n:Int) (ks:List CTree):Nat :=
 if n=7 then 3 else if n=8∨n=11 then 10 else if n=10 then 18 else if n=9 then 2
 else if n=3∨n=4 then (if quR ks=true∧tOp (qAq ks)=1∧tN (qAq ks)≠0 then 0 else 2)
 else if quR ks=true then 0 else 2
def qAk (ks:List CTree) (as:List CAlt):Bool:=(tOp (qwC ks)==8 && (tN (qwC ks)==5 || tN (qwC ks)==6)) && qAj as
def qwI (op n:Int) (ks:List CTree) (as:List CAlt):Nat :=
 if op=17 then 2 else if op=8 then qp3 n ks
 else if op=3 then (if tOp (qwC ks)≠2∨(qwQ (qwC ks)).length+1≠ks.length then 63 else 0)
 else if op=7 then (if qAk ks as=true then 0 else 2)
 else if op=10∨op=11 then (if tOp (qwC ks)≠9∨(op=10∧qsw (qwQ (qwC ks)) n=false) then 2 else 0)
 else if op=12 then 6 else if op=13 then 63 else 0
section
end
section
end
section
end
theorem qyQ (n:Int) (ks:List CTree):qp3 n ks<64:=by
 unfold qp3
 repeat' split
 all_goals omega
theorem own_lt (op n:Int) (ks:List CTree) (as:List CAlt):qwI op n ks as<64:=by
 unfold qwI
 have:=qyQ n ks
 repeat' split
 all_goals omega
section
end
section
end
inductive CNode where
 | mk (op n:Int) (binds xk:List Int) (kids:List CNode) (alts:List CAlt)
def qdS:CNode→AVal
 | .mk op n binds xk kids alts=>.vptr [.int .i64 op,.int .i64 n,.list (binds.map qat) none,.list (xk.map qat) none,.list (alts.map qas) none,.list (kids.attach.map fun k=>qdS k.1) none] 0
 termination_by t=>SizeOf.sizeOf t
 decreasing_by
  have:=List.sizeOf_lt_of_mem k.2
  simp only[CNode.mk.sizeOf_spec]
  omega
def qhP:CNode→CTree
 | .mk op n binds xk kids alts=>.mk op n binds (kids.attach.map fun k=>qhP k.1) alts
 termination_by t=>SizeOf.sizeOf t
 decreasing_by
  have:=List.sizeOf_lt_of_mem k.2
  simp only[CNode.mk.sizeOf_spec]
  omega
theorem qlA (op n:Int) (binds xk:List Int) (kids:List CNode) (alts:List CAlt):qdS (.mk op n binds xk kids alts)=.vptr [.int .i64 op,.int .i64 n,.list (binds.map qat) none,.list (xk.map qat) none,.list (alts.map qas) none,.list (kids.map qdS) none] 0:=by
 rw[qdS]
 simp
theorem quC (op n:Int) (binds xk:List Int) (kids:List CNode) (alts:List CAlt):qhP (.mk op n binds xk kids alts)=.mk op n binds (kids.map qhP) alts:=by
 rw[qhP]
 simp
theorem CNode.ind {P:CNode→Prop} (h:∀ op n binds xk kids alts,(∀ k∈kids,P k)→P (.mk op n binds xk kids alts)):∀ t,P t
 | .mk op n binds xk kids alts=>h op n binds xk kids alts fun k hk=>CNode.ind h k
 termination_by t=>SizeOf.sizeOf t
 decreasing_by
  have:=List.sizeOf_lt_of_mem hk
  simp only[CNode.mk.sizeOf_spec]
  omega
section
end
theorem qim:∀ ks:List CTree,ks.length≤qaC ks
 | []=>by rw[qaC];simp
 | k::ks=>by rw[qaC,List.length_cons];have:=qfX k;have:=qim ks;omega
section
end
theorem qpu (t:CNode):acells (qdS t)=[qdS t]:=by cases t;rw[qlA];rfl
section
end
theorem qeF {op n:Int} {bl kl:Nat} {as:List CAlt} (h:qba op n bl kl as=true):(op=2→kl=1)∧((op=8∨op=3∨op=7∨op=10∨op=11)→0<kl)∧(op=8→¬ (n=7∨n=9)→1<kl):=by
 by_cases ho:op=7∨op=13
 ·have:=(qeE h).1 ho
  exact⟨fun h2=>by omega,fun _=>by omega,fun h8=>by omega⟩
 ·unfold qba at h
  rw[if_neg ho] at h
  split at h
  ·cases h
  ·rename_i r hr
   unfold qbL at h
   simp only[Bool.and_eq_true,beq_iff_eq] at h
   have hk:=h.1.1.1
   unfold kbu at hr
   refine⟨fun h2=>?_,fun hh=>?_,fun h8 hn=>?_⟩
   ·subst h2
    simp at hr
    rw[← hr] at hk
    simp at hk
    omega
   ·rcases hh with rfl | rfl | rfl | rfl | rfl
    ·simp only[show ¬((8:Int)=0∨(8:Int)=1∨(8:Int)=17) by omega,show ¬(8:Int)=2 by omega,show ¬(8:Int)=3 by omega,show ¬(8:Int)=4 by omega,show ¬(8:Int)=5 by omega,show ¬(8:Int)=6 by omega,if_true,if_false] at hr
     split at hr
     ·injection hr with hr
      rw[← hr] at hk
      dsimp only at hk
      unfold qjv at hk
      split at hk
      ·omega
      ·split at hk<;>omega
     ·cases hr
    ·simp at hr
     rw[← hr] at hk
     dsimp only at hk
     omega
    ·omega
    ·simp at hr
     rw[← hr] at hk
     simp at hk
     omega
    ·simp at hr
     rw[← hr] at hk
     simp at hk
     omega
   ·subst h8
    simp only[show ¬((8:Int)=0∨(8:Int)=1∨(8:Int)=17) by omega,show ¬(8:Int)=2 by omega,show ¬(8:Int)=3 by omega,show ¬(8:Int)=4 by omega,show ¬(8:Int)=5 by omega,show ¬(8:Int)=6 by omega,if_true,if_false] at hr
    split at hr
    ·injection hr with hr
     rw[← hr] at hk
     dsimp only at hk
     unfold qjv at hk
     rw[if_neg hn] at hk
     split at hk<;>omega
    ·cases hr
section
end
end Go.Abs
