/-
  PARTS OF A PROOF, joined: an abstract machine for quiet code, its evaluation, and what the seat's functions answer on it. Conditions: none.
-/
import Derived.Test.YtpchghpipgpkfaaDoorHA
import Derived.Test.YtpchghpipgpkfaaDoorC
import Derived.Test.YtpchghpipgpkfaaDoorW
set_option linter.unusedVariables false
set_option linter.unusedSimpArgs false
set_option maxRecDepth 100000
set_option maxHeartbeats 4000000
namespace Go.Abs
def tOp:CTree→Int | .mk op _ _ _ _=>op
def tN:CTree→Int | .mk _ n _ _ _=>n
def qyO:CTree→List Int | .mk _ _ b _ _=>b
def qyQ (t:CTree):Bool:=tOp t==1 || (tOp t==8 && (decide (tN t≤4) || tN t==9))
def qCl (_:Nat) (k:Int) (a:CAlt):Except Bool Int:=if a.tag = -1 then .error true else if a.tag≤1 then (if a.binds=[] then .ok (k+1) else .error false) else .ok k
def qCm (as:List CAlt):Bool:=match qbJ qCl as 0 0 with | .ok k=>k==2 | .error b=>b
def qyD (ks:List CTree):CTree:=ks.getD 0 .none
def qCw (ks:List CTree):CTree:=ks.getD 1 .none
def qwz (ks:List CTree):Bool:=qyQ (qyD ks) && (decide (ks.length=1) || qyQ (qCw ks))
def qqW (n:Int) (ks:List CTree):Nat :=
 if n=7 then 3 else if n=8∨n=11 then 10 else if n=10 then 18 else if n=9 then 2
 else if n=3∨n=4 then (if qwz ks=true∧tOp (qCw ks)=1∧tN (qCw ks)≠0 then 0 else 2)
 else if qwz ks=true then 0 else 2
def qCn (ks:List CTree) (as:List CAlt):Bool:=(tOp (qyD ks)==8 && (tN (qyD ks)==5 || tN (qyD ks)==6)) && qCm as
def qyH (op n:Int) (ks:List CTree) (as:List CAlt):Nat :=
 if op=17 then 2 else if op=8 then qqW n ks
 else if op=3 then (if tOp (qyD ks)≠2∨(qyO (qyD ks)).length+1≠ks.length then 63 else 0)
 else if op=7 then (if qCn ks as=true then 0 else 2)
 else if op=10∨op=11 then (if tOp (qyD ks)≠9∨(op=10∧qsR (qyO (qyD ks)) n=false) then 2 else 0)
 else if op=12 then 6 else if op=13 then 63 else 0
section
end
section
end
section
end
theorem qAQ (n:Int) (ks:List CTree):qqW n ks<64:=by
 unfold qqW
 repeat' split
 all_goals omega
theorem own_lt (op n:Int) (ks:List CTree) (as:List CAlt):qyH op n ks as<64:=by
 unfold qyH
 have:=qAQ n ks
 repeat' split
 all_goals omega
section
end
section
end
inductive CNode where
 | mk (op n:Int) (binds xk:List Int) (kids:List CNode) (alts:List CAlt)
def qev:CNode→AVal
 | .mk op n binds xk kids alts=>.vptr [.int .i64 op,.int .i64 n,.list (binds.map qav) none,.list (xk.map qav) none,.list (alts.map qas) none,.list (kids.attach.map fun k=>qev k.1) none] 0
 termination_by t=>SizeOf.sizeOf t
 decreasing_by
  have:=List.sizeOf_lt_of_mem k.2
  simp only[CNode.mk.sizeOf_spec]
  omega
def qiJ:CNode→CTree
 | .mk op n binds xk kids alts=>.mk op n binds (kids.attach.map fun k=>qiJ k.1) alts
 termination_by t=>SizeOf.sizeOf t
 decreasing_by
  have:=List.sizeOf_lt_of_mem k.2
  simp only[CNode.mk.sizeOf_spec]
  omega
theorem qmz (op n:Int) (binds xk:List Int) (kids:List CNode) (alts:List CAlt):qev (.mk op n binds xk kids alts)=.vptr [.int .i64 op,.int .i64 n,.list (binds.map qav) none,.list (xk.map qav) none,.list (alts.map qas) none,.list (kids.map qev) none] 0:=by
 rw[qev]
 simp
theorem qwh (op n:Int) (binds xk:List Int) (kids:List CNode) (alts:List CAlt):qiJ (.mk op n binds xk kids alts)=.mk op n binds (kids.map qiJ) alts:=by
 rw[qiJ]
 simp
theorem CNode.ind {P:CNode→Prop} (h:∀ op n binds xk kids alts,(∀ k∈kids,P k)→P (.mk op n binds xk kids alts)):∀ t,P t
 | .mk op n binds xk kids alts=>h op n binds xk kids alts fun k hk=>CNode.ind h k
 termination_by t=>SizeOf.sizeOf t
 decreasing_by
  have:=List.sizeOf_lt_of_mem hk
  simp only[CNode.mk.sizeOf_spec]
  omega
section
end
theorem qjk:∀ ks:List CTree,ks.length≤qaF ks
 | []=>by rw[qaF];simp
 | k::ks=>by rw[qaF,List.length_cons];have:=qfo k;have:=qjk ks;omega
section
end
theorem qqb (t:CNode):acells (qev t)=[qev t]:=by cases t;rw[qmz];rfl
section
end
theorem qcm {op n:Int} {bl kl:Nat} {as:List CAlt} (h:qa2 op n bl kl as=true):(op=2→kl=1)∧((op=8∨op=3∨op=7∨op=10∨op=11)→0<kl)∧(op=8→¬ (n=7∨n=9)→1<kl):=by
 by_cases ho:op=7∨op=13
 ·have:=(qdC h).1 ho
  exact⟨fun h2=>by omega,fun _=>by omega,fun h8=>by omega⟩
 ·unfold qa2 at h
  rw[if_neg ho] at h
  split at h
  ·cases h
  ·rename_i r hr
   unfold qbN at h
   simp only[Bool.and_eq_true,beq_iff_eq] at h
   have hk:=h.1.1.1
   unfold kbu at hr
   refine⟨fun h2=>?_,fun hh=>?_,fun h8 hn=>?_⟩
   ·subst h2
    simp at hr
    rw[← hr] at hk
    simp at hk
    omega
   ·rcases hh with rfl | rfl | rfl | rfl | rfl
    ·simp only[show ¬((8:Int)=0∨(8:Int)=1∨(8:Int)=17) by omega,show ¬(8:Int)=2 by omega,show ¬(8:Int)=3 by omega,show ¬(8:Int)=4 by omega,show ¬(8:Int)=5 by omega,show ¬(8:Int)=6 by omega,if_true,if_false] at hr
     split at hr
     ·injection hr with hr
      rw[← hr] at hk
      dsimp only at hk
      unfold qkv at hk
      split at hk
      ·omega
      ·split at hk<;>omega
     ·cases hr
    ·simp at hr
     rw[← hr] at hk
     dsimp only at hk
     omega
    ·omega
    ·simp at hr
     rw[← hr] at hk
     simp at hk
     omega
    ·simp at hr
     rw[← hr] at hk
     simp at hk
     omega
   ·subst h8
    simp only[show ¬((8:Int)=0∨(8:Int)=1∨(8:Int)=17) by omega,show ¬(8:Int)=2 by omega,show ¬(8:Int)=3 by omega,show ¬(8:Int)=4 by omega,show ¬(8:Int)=5 by omega,show ¬(8:Int)=6 by omega,if_true,if_false] at hr
    split at hr
    ·injection hr with hr
     rw[← hr] at hk
     dsimp only at hk
     unfold qkv at hk
     rw[if_neg hn] at hk
     split at hk<;>omega
    ·cases hr
section
end
end Go.Abs
