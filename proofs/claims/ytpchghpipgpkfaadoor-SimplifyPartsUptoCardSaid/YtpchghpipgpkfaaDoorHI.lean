/-
  PARTS OF A PROOF, joined: an abstract machine for quiet code, its evaluation, and what the seat's functions answer on it. Conditions: none.
-/
import Derived.Test.YtpchghpipgpkfaaDoorHF
import Derived.Test.YtpchghpipgpkfaaDoorW
import Derived.Test.YtpchghpipgpkfaaDoorHA
import Derived.Test.YtpchghpipgpkfaaDoorC
set_option linter.unusedVariables false
set_option linter.unusedSimpArgs false
set_option maxRecDepth 100000
set_option maxHeartbeats 4000000
namespace Go.Abs
theorem HT.lt {H:Heap} {t:CTree} {p:Nat} {fp:List Nat} (h:HT H t p fp):∀ q∈fp,q<H.length:=by
 induction h with
 | mk op n binds kids alts p bv fb ps ow fks avs oa fa hbox hb ha hl1 hl2 hk ih =>
   intro q hq
   rcases List.mem_cons.1 hq with rfl | hq
   ·exact hlt hbox
   ·rcases List.mem_append.1 hq with hq | hq
    ·exact hb.lt q hq
    ·rcases List.mem_append.1 hq with hq | hq
     ·exact ha.lt q hq
     ·obtain⟨f,hf,hq⟩:=List.mem_flatten.1 hq
      obtain⟨i,hi,rfl⟩:=List.getElem_of_mem hf
      exact ih i (by omega) q hq
theorem qpJ (tm:Tmps) (h:Heap):qnE ⟨tm,h⟩=⟨fun i=>viewV h (tm i),h.map fun _=>.gone⟩:=rfl
section
variable {L:Lib}
theorem qqe (hL:Plain L) (hP:MPrims L) (h160:L.fns 160=some fm160) (e:List CExpr) (h:Heap) (hl:e.length<2 ^ 30) (hf:∀ x∈e,NodeFit x) (hT:TreeL e) (hh:hgt (qbn e)≤400) :
  pcall L 160 [.list (e.map qal) none] h=some (.val (qaB (qbn e)),h):=by
 obtain⟨H,p,fp,h1,h2,_⟩:=quB hL hP h160 e hl hf hT []
 have hv:=h2.look (by omega)
 obtain⟨tc,htc,hdt⟩:=qcc (qbn e)
 refine qcf h1 ?_ (qb8 _) h
 unfold qeP
 rw[if_neg (by simp[qaD,wipeR,wipe,wipeCell,qay]),hv,htc,qfW]
end
section
end
theorem qxm {l:Lab} (h:qb5 false l=0):qqb l=0:=by
 unfold qb5 at h
 split at h
 ·cases h
 ·exact h
theorem qqo {l:Lab} (h:qb5 false l=0):qa7 l.op l.n l.binds.length l.kops.length l.alts=true∧qcG l.op l.n l.binds l.kops.length l.alts=0:=by
 have he:=qxm h
 unfold qqb at he
 split at he
 ·cases he
 ·rename_i h1
  split at he
  ·rename_i h2;exact absurd he h2
  ·rename_i h2
   exact⟨by simpa using h1,Classical.not_not.1 h2⟩
section
end
def h7 (s:List Int):Heap:=if s=[] then [] else [.vec (s.map qaw) 1]
section
end
end Go.Abs
