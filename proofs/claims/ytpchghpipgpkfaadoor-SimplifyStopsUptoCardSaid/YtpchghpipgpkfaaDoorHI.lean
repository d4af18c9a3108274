/-
  PARTS OF A PROOF, joined: an abstract machine for quiet code, its evaluation, and what the seat's functions answer on it. Conditions: none.
-/
import Derived.Test.YtpchghpipgpkfaaDoorHF
import Derived.Test.YtpchghpipgpkfaaDoorW
import Derived.Test.YtpchghpipgpkfaaDoorHA
import Derived.Test.YtpchghpipgpkfaaDoorC
set_option linter.unusedVariables false
set_option linter.unusedSimpArgs false
set_option maxRecDepth 100000
set_option maxHeartbeats 4000000
namespace Go.Abs
theorem HT.lt {H:Heap} {t:CTree} {p:Nat} {fp:List Nat} (h:HT H t p fp):∀ q∈fp,q<H.length:=by
 induction h with
 | mk op n binds kids alts p bv fb ps ow fks avs oa fa hbox hb ha hl1 hl2 hk ih =>
   intro q hq
   rcases List.mem_cons.1 hq with rfl | hq
   ·exact hlt hbox
   ·rcases List.mem_append.1 hq with hq | hq
    ·exact hb.lt q hq
    ·rcases List.mem_append.1 hq with hq | hq
     ·exact ha.lt q hq
     ·obtain⟨f,hf,hq⟩:=List.mem_flatten.1 hq
      obtain⟨i,hi,rfl⟩:=List.getElem_of_mem hf
      exact ih i (by omega) q hq
theorem qpM (tm:Tmps) (h:Heap):qnK ⟨tm,h⟩=⟨fun i=>viewV h (tm i),h.map fun _=>.gone⟩:=rfl
section
variable {L:Lib}
theorem qqi (hL:Plain L) (hP:MPrims L) (h160:L.fns 160=some fm160) (e:List CExpr) (h:Heap) (hl:e.length<2 ^ 30) (hf:∀ x∈e,NodeFit x) (hT:TreeL e) (hh:hgt (qbl e)≤400) :
  pcall L 160 [.list (e.map qam) none] h=some (.val (qaC (qbl e)),h):=by
 obtain⟨H,p,fp,h1,h2,_⟩:=quM hL hP h160 e hl hf hT []
 have hv:=h2.look (by omega)
 obtain⟨tc,htc,hdt⟩:=qce (qbl e)
 refine qch h1 ?_ (qb9 _) h
 unfold qeW
 rw[if_neg (by simp[qaB,wipeR,wipe,wipeCell,qay]),hv,htc,qf2]
end
section
end
def BG (op:Int) (binds:List Int):Prop:=op≠9→qfk op=false→binds=[]
inductive BGt:CTree→Prop
 | mk (op n:Int) (binds:List Int) (kids:List CTree) (alts:List CAlt) (hb:BG op binds) (h0:op=0→kids=[]∧alts=[]) (h:∀ k∈kids,BGt k):BGt (.mk op n binds kids alts)
theorem qu9 {op n:Int} {binds:List Int} {kl:Nat} {as:List CAlt} (h:qaZ op n binds.length kl as=true):BG op binds∧(op=0→kl=0∧as=[]):=by
 unfold qaZ at h
 split at h
 ·rename_i ho
  simp only[Bool.and_eq_true,beq_iff_eq] at h
  refine⟨fun _ _=>List.length_eq_zero_iff.1 (by omega),fun h0=>?_⟩
  subst h0
  exact absurd ho (by decide)
 ·split at h
  ·cases h
  ·rename_i r hr
   unfold qbC at h
   simp only[Bool.and_eq_true,beq_iff_eq] at h
   obtain⟨⟨⟨a1,a2⟩,a3⟩,_⟩:=h
   refine⟨fun h9 hob=>List.length_eq_zero_iff.1 ?_,fun h0=>?_⟩
   ·unfold qfk at hob
    simp only[Bool.or_eq_false_iff,beq_eq_false_iff_ne] at hob
    obtain⟨⟨o1,o2⟩,o3⟩:=hob
    unfold kbu at hr
    rw[if_neg o1,if_neg o2,if_neg o3,if_neg h9] at hr
    repeat' (split at hr)
    all_goals first
     | (cases hr;done)
     | (injection hr with hr;subst hr;simpa using a2)
   ·subst h0
    have:kbu 0 n binds.length kl=some (0,0,true):=rfl
    rw[this] at hr
    injection hr with hr
    subst hr
    exact⟨by simpa using a1,List.length_eq_zero_iff.1 (by simpa using a3)⟩
theorem qxy {l:Lab} (h:qbU false l=0):qqe l=0:=by
 unfold qbU at h
 split at h
 ·cases h
 ·exact h
theorem qkV {l:Lab} (h:qbU false l=0):qaZ l.op l.n l.binds.length l.kops.length l.alts=true∧qcK l.op l.n l.binds l.kops.length l.alts=0:=by
 have he:=qxy h
 unfold qqe at he
 split at he
 ·cases he
 ·rename_i h1
  split at he
  ·rename_i h2;exact absurd he h2
  ·rename_i h2
   exact⟨by simpa using h1,Classical.not_not.1 h2⟩
theorem qjG {k:CTree} {ks:List CTree} (h:k∈ks):∀ l∈qbN k,l∈qbO ks:=by
 induction ks with
 | nil=>cases h
 | cons a ks ih =>
   intro l hl
   rw[qbO]
   rcases List.mem_cons.1 h with h | h
   ·subst h;exact List.mem_append.2 (.inl hl)
   ·exact List.mem_append.2 (.inr (ih h l hl))
theorem qrb (t:CTree) (h:∀ l∈qbN t,qbU false l=0):BGt t:=by
 induction t using CTree.ind with
 | h op n binds kids alts ih =>
   rw[qbN] at h
   obtain⟨h1,_⟩:=qkV (h ⟨op,n,binds,kids.map qcB,alts⟩ (by simp))
   obtain⟨b1,b2⟩:=qu9 h1
   refine .mk _ _ _ _ _ b1 (fun h0=>?_) fun k hk=>ih k hk fun l hl=>h l (List.mem_append.2 (.inl (qjG hk l hl)))
   obtain⟨x1,x2⟩:=b2 h0
   exact⟨by simpa using x1,x2⟩
section
end
def h7 (s:List Int):Heap:=if s=[] then [] else [.vec (s.map qav) 1]
section
end
end Go.Abs
