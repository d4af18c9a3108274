/-
  PARTS OF A PROOF, joined: an abstract machine for quiet code, its evaluation, and what the seat's functions answer on it. Conditions: none.
-/
import Derived.Test.YtpchghpipgpkfaaDoorW
import Derived.Test.YtpchghpipgpkfaaDoorPA
set_option linter.unusedVariables false
set_option linter.unusedSimpArgs false
set_option maxRecDepth 100000
set_option maxHeartbeats 4000000
namespace Go.Abs
inductive CNode where
 | mk (op n:Int) (binds xk:List Int) (kids:List CNode) (alts:List CAlt)
def qdD:CNode→AVal
 | .mk op n binds xk kids alts=>.vptr [.int .i64 op,.int .i64 n,.list (binds.map qav) none,.list (xk.map qav) none,.list (alts.map qau) none,.list (kids.attach.map fun k=>qdD k.1) none] 0
 termination_by t=>SizeOf.sizeOf t
 decreasing_by
  have:=List.sizeOf_lt_of_mem k.2
  simp only[CNode.mk.sizeOf_spec]
  omega
def qhi:CNode→CTree
 | .mk op n binds xk kids alts=>.mk op n binds (kids.attach.map fun k=>qhi k.1) alts
 termination_by t=>SizeOf.sizeOf t
 decreasing_by
  have:=List.sizeOf_lt_of_mem k.2
  simp only[CNode.mk.sizeOf_spec]
  omega
theorem qkK (op n:Int) (binds xk:List Int) (kids:List CNode) (alts:List CAlt):qdD (.mk op n binds xk kids alts)=.vptr [.int .i64 op,.int .i64 n,.list (binds.map qav) none,.list (xk.map qav) none,.list (alts.map qau) none,.list (kids.map qdD) none] 0:=by
 rw[qdD]
 simp
theorem qs9 (op n:Int) (binds xk:List Int) (kids:List CNode) (alts:List CAlt):qhi (.mk op n binds xk kids alts)=.mk op n binds (kids.map qhi) alts:=by
 rw[qhi]
 simp
theorem CNode.ind {P:CNode→Prop} (h:∀ op n binds xk kids alts,(∀ k∈kids,P k)→P (.mk op n binds xk kids alts)):∀ t,P t
 | .mk op n binds xk kids alts=>h op n binds xk kids alts fun k hk=>CNode.ind h k
 termination_by t=>SizeOf.sizeOf t
 decreasing_by
  have:=List.sizeOf_lt_of_mem hk
  simp only[CNode.mk.sizeOf_spec]
  omega
section
end
theorem qen:∀ ks:List CTree,ks.length≤qaz ks
 | []=>by rw[qaz];simp
 | k::ks=>by rw[qaz,List.length_cons];have:=qfr k;have:=qen ks;omega
section
end
theorem qnU (t:CNode):acells (qdD t)=[qdD t]:=by cases t;rw[qkK];rfl
section
end
theorem qek {op n:Int} {bl kl:Nat} {as:List CAlt} (h:qaZ op n bl kl as=true):(op=2→kl=1)∧((op=8∨op=3∨op=7∨op=10∨op=11)→0<kl)∧(op=8→¬ (n=7∨n=9)→1<kl):=by
 by_cases ho:op=7∨op=13
 ·have:=(qdy h).1 ho
  exact⟨fun h2=>by omega,fun _=>by omega,fun h8=>by omega⟩
 ·unfold qaZ at h
  rw[if_neg ho] at h
  split at h
  ·cases h
  ·rename_i r hr
   unfold qbC at h
   simp only[Bool.and_eq_true,beq_iff_eq] at h
   have hk:=h.1.1.1
   unfold kbu at hr
   refine⟨fun h2=>?_,fun hh=>?_,fun h8 hn=>?_⟩
   ·subst h2
    simp at hr
    rw[← hr] at hk
    simp at hk
    omega
   ·rcases hh with rfl | rfl | rfl | rfl | rfl
    ·simp only[show ¬((8:Int)=0∨(8:Int)=1∨(8:Int)=17) by omega,show ¬(8:Int)=2 by omega,show ¬(8:Int)=3 by omega,show ¬(8:Int)=4 by omega,show ¬(8:Int)=5 by omega,show ¬(8:Int)=6 by omega,if_true,if_false] at hr
     split at hr
     ·injection hr with hr
      rw[← hr] at hk
      dsimp only at hk
      unfold qiZ at hk
      split at hk
      ·omega
      ·split at hk<;>omega
     ·cases hr
    ·simp at hr
     rw[← hr] at hk
     dsimp only at hk
     omega
    ·omega
    ·simp at hr
     rw[← hr] at hk
     simp at hk
     omega
    ·simp at hr
     rw[← hr] at hk
     simp at hk
     omega
   ·subst h8
    simp only[show ¬((8:Int)=0∨(8:Int)=1∨(8:Int)=17) by omega,show ¬(8:Int)=2 by omega,show ¬(8:Int)=3 by omega,show ¬(8:Int)=4 by omega,show ¬(8:Int)=5 by omega,show ¬(8:Int)=6 by omega,if_true,if_false] at hr
    split at hr
    ·injection hr with hr
     rw[← hr] at hk
     dsimp only at hk
     unfold qiZ at hk
     rw[if_neg hn] at hk
     split at hk<;>omega
    ·cases hr
section
end
end Go.Abs
