/-
  PARTS OF A PROOF, joined: an abstract machine for quiet code, its evaluation, and what the seat's functions answer on it. Conditions: none.
-/
import Derived.Test.YtpchghpipgpkfaaDoorW
import Derived.Test.YtpchghpipgpkfaaDoorPA
set_option linter.unusedVariables false
set_option linter.unusedSimpArgs false
set_option maxRecDepth 100000
set_option maxHeartbeats 4000000
namespace Go.Abs
inductive CNode where
 | mk (op n:Int) (binds xk:List Int) (kids:List CNode) (alts:List CAlt)
def qdy:CNode→AVal
 | .mk op n binds xk kids alts=>.vptr [.int .i64 op,.int .i64 n,.list (binds.map qaw) none,.list (xk.map qaw) none,.list (alts.map qax) none,.list (kids.attach.map fun k=>qdy k.1) none] 0
 termination_by t=>SizeOf.sizeOf t
 decreasing_by
  have:=List.sizeOf_lt_of_mem k.2
  simp only[CNode.mk.sizeOf_spec]
  omega
def qhc:CNode→CTree
 | .mk op n binds xk kids alts=>.mk op n binds (kids.attach.map fun k=>qhc k.1) alts
 termination_by t=>SizeOf.sizeOf t
 decreasing_by
  have:=List.sizeOf_lt_of_mem k.2
  simp only[CNode.mk.sizeOf_spec]
  omega
theorem qkC (op n:Int) (binds xk:List Int) (kids:List CNode) (alts:List CAlt):qdy (.mk op n binds xk kids alts)=.vptr [.int .i64 op,.int .i64 n,.list (binds.map qaw) none,.list (xk.map qaw) none,.list (alts.map qax) none,.list (kids.map qdy) none] 0:=by
 rw[qdy]
 simp
theorem qs1 (op n:Int) (binds xk:List Int) (kids:List CNode) (alts:List CAlt):qhc (.mk op n binds xk kids alts)=.mk op n binds (kids.map qhc) alts:=by
 rw[qhc]
 simp
theorem CNode.ind {P:CNode→Prop} (h:∀ op n binds xk kids alts,(∀ k∈kids,P k)→P (.mk op n binds xk kids alts)):∀ t,P t
 | .mk op n binds xk kids alts=>h op n binds xk kids alts fun k hk=>CNode.ind h k
 termination_by t=>SizeOf.sizeOf t
 decreasing_by
  have:=List.sizeOf_lt_of_mem hk
  simp only[CNode.mk.sizeOf_spec]
  omega
section
end
theorem qeg:∀ ks:List CTree,ks.length≤qaz ks
 | []=>by rw[qaz];simp
 | k::ks=>by rw[qaz,List.length_cons];have:=qfl k;have:=qeg ks;omega
section
end
theorem qnP (t:CNode):acells (qdy t)=[qdy t]:=by cases t;rw[qkC];rfl
section
end
theorem qef {op n:Int} {bl kl:Nat} {as:List CAlt} (h:qa7 op n bl kl as=true):(op=2→kl=1)∧((op=8∨op=3∨op=7∨op=10∨op=11)→0<kl)∧(op=8→¬ (n=7∨n=9)→1<kl):=by
 by_cases ho:op=7∨op=13
 ·have:=(qdt h).1 ho
  exact⟨fun h2=>by omega,fun _=>by omega,fun h8=>by omega⟩
 ·unfold qa7 at h
  rw[if_neg ho] at h
  split at h
  ·cases h
  ·rename_i r hr
   unfold qbI at h
   simp only[Bool.and_eq_true,beq_iff_eq] at h
   have hk:=h.1.1.1
   unfold kbu at hr
   refine⟨fun h2=>?_,fun hh=>?_,fun h8 hn=>?_⟩
   ·subst h2
    simp at hr
    rw[← hr] at hk
    simp at hk
    omega
   ·rcases hh with rfl | rfl | rfl | rfl | rfl
    ·simp only[show ¬((8:Int)=0∨(8:Int)=1∨(8:Int)=17) by omega,show ¬(8:Int)=2 by omega,show ¬(8:Int)=3 by omega,show ¬(8:Int)=4 by omega,show ¬(8:Int)=5 by omega,show ¬(8:Int)=6 by omega,if_true,if_false] at hr
     split at hr
     ·injection hr with hr
      rw[← hr] at hk
      dsimp only at hk
      unfold qiQ at hk
      split at hk
      ·omega
      ·split at hk<;>omega
     ·cases hr
    ·simp at hr
     rw[← hr] at hk
     dsimp only at hk
     omega
    ·omega
    ·simp at hr
     rw[← hr] at hk
     simp at hk
     omega
    ·simp at hr
     rw[← hr] at hk
     simp at hk
     omega
   ·subst h8
    simp only[show ¬((8:Int)=0∨(8:Int)=1∨(8:Int)=17) by omega,show ¬(8:Int)=2 by omega,show ¬(8:Int)=3 by omega,show ¬(8:Int)=4 by omega,show ¬(8:Int)=5 by omega,show ¬(8:Int)=6 by omega,if_true,if_false] at hr
    split at hr
    ·injection hr with hr
     rw[← hr] at hk
     dsimp only at hk
     unfold qiQ at hk
     rw[if_neg hn] at hk
     split at hk<;>omega
    ·cases hr
section
end
end Go.Abs
