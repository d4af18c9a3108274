/-
  PARTS OF A PROOF, joined: an abstract machine for quiet code, its evaluation, and what the seat's functions answer on it. Conditions: none.
-/
import Derived.Test.YtbmognfolkhkpaaDoorHI
import Derived.Test.YtbmognfolkhkpaaDoorHA
import Derived.Test.YtbmognfolkhkpaaDoorC
set_option linter.unusedVariables false
set_option linter.unusedSimpArgs false
set_option maxRecDepth 100000
namespace Go.Abs
theorem qxm {l:Lab} (h:qdm false l=0):qq5 l=0:=by
 unfold qdm at h
 split at h
 ·cases h
 ·exact h
theorem ql9 {l:Lab} (h:qdm false l=0):qcc l.op l.n l.binds.length l.kops.length l.alts=true∧qdJ l.op l.n l.binds l.kops.length l.alts=0:=by
 have he:=qxm h
 unfold qq5 at he
 split at he
 ·cases he
 ·rename_i h1
  split at he
  ·rename_i h2;exact absurd he h2
  ·rename_i h2
   exact⟨by simpa using h1,Classical.not_not.1 h2⟩
theorem qsP {k:CTree} {ks:List CTree} (h:k∈ks):∀ l∈qdI k,l∈qea ks:=by
 induction ks with
 | nil=>cases h
 | cons a ks ih =>
   intro l hl
   rw[qea]
   rcases List.mem_cons.1 h with h | h
   ·subst h;exact List.mem_append.2 (.inl hl)
   ·exact List.mem_append.2 (.inr (ih h l hl))
end Go.Abs
set_option maxHeartbeats 4000000
namespace Go.Abs
def qy5 (H:Heap) (n:Nat) (ow:Option (Option Nat)):Prop:=(n=0∧ow=some none)∨(0<n∧∃ t,ow=some (some t)∧H[t]? = some (.tail n 1))
section
variable {L:Lib}
theorem qmF {b:Nat} (as:List CAlt) (hl:as.length<2 ^ 30) (s0:List Int) (ht:(s0++as.flatMap (·.binds)).length≤2 ^ 30) (H:Heap) (ow:Option (Option Nat)) (ho:qy5 H s0.length ow) :
  ∃ T,qb7 L.pure (call L) b [1000000,3,24,25,26] [1000000,3] 0 qg8 ⟨kt [3,24,25,26] [.list (s0.map qaY) ow,.list (as.map qaU) none,.int .i64 as.length,.int .i64 0],H⟩=some (.normal,T) ∧
   ∃ H' ow',T=⟨kt [3] [.list ((s0++as.flatMap (·.binds)).map qaY) ow'],H'⟩:=by
 refine qcD (pure:=L.pure) (call:=call L) (b:=b) (id:=0) (body:=qg8)
  (fun j st=>∃ H' ow',st=⟨kt [3,24,25,26] [.list ((s0++(as.take j).flatMap (·.binds)).map qaY) ow',.list (as.map qaU) none,.int .i64 as.length,.int .i64 j],H'⟩∧qy5 H' (s0++(as.take j).flatMap (·.binds)).length ow') as.length _ ?_ ?_ ?_
 ·intro j st hj hst
  obtain⟨H',ow',rfl,hO⟩:=hst
  obtain⟨h1,h2,h3⟩:=qbz qaU as hl j hj
  have htake:(as.take (j+1)).flatMap (·.binds)=(as.take j).flatMap (·.binds)++as[j].binds:=by
   rw[List.take_succ_eq_append_getElem hj,List.flatMap_append,List.flatMap_cons,List.flatMap_nil,List.append_nil]
  have hlen:(s0++(as.take j).flatMap (·.binds)).length+as[j].binds.length≤1073741824:=by
   have h5:as.flatMap (·.binds)=(as.take j).flatMap (·.binds)++(as[j].binds++(as.drop (j+1)).flatMap (·.binds)):=by
    conv=>lhs;rw[← List.take_append_drop j as,List.drop_eq_getElem_cons hj]
    rw[List.flatMap_append,List.flatMap_cons]
   rw[h5] at ht
   simp only[List.length_append] at ht ⊢
   omega
  rw[htake,← List.append_assoc]
  generalize s0++(as.take j).flatMap (·.binds)=s at *
  generalize as[j]=a at *
  have hs1:=qdM s
  have hs3:=qdM a.binds
  obtain⟨rr,hr0⟩:∃ rr,qb6 L.pure (call L) b [1000000,3,24,25,26] [1000000,3] qg8 ⟨kt [3,24,25,26] [.list (s.map qaY) ow',.list (as.map qaU) none,.int .i64 as.length,.int .i64 j],H'⟩=rr:=⟨_,rfl⟩
  have hrr:=hr0
  unfold qg8 at hrr
  by_cases hab:a.binds=[]
  ·rw[hab,List.append_nil]
   have hab':a.binds.map qaY=[]:=by rw[hab];rfl
   simp -implicitDefEqProofs only[qam,qad,qae,qab,qal,qac,qah,aOp,opd,qai,qa3,qaB,qag,qaZ,qbb,qba,qas,qaj,qaA,qby,qbC,qaG,leaf,qar,qaV,qa0,qaf,qbR,Option.map_some,List.map_cons,List.map_nil,List.length_cons,List.length_nil,List.nil_append,List.append_nil,List.getElem?_cons_zero,List.getElem?_cons_succ,List.take_succ_cons,List.take_zero,List.drop_succ_cons,List.drop_zero,List.take_nil,List.drop_nil,List.all_cons,List.all_nil,↓reduceIte,Bool.and_true,Bool.false_eq_true,decide_true,and_self,Nat.le_refl,Nat.zero_add,Nat.reduceEqDiff,Nat.reduceAdd,Int.toNat_natCast,Int.natCast_nonneg,qaz,qbI,h1,h2,h3,hab',hgl,hsl] at hrr
   subst hrr
   refine⟨_,hr0,_,ow',rfl,?_⟩
   rcases hO with hO | ⟨x1,t,x2,x3⟩
   ·exact .inl hO
   ·exact .inr ⟨x1,t,x2,by rw[hga (hlt x3)];exact x3⟩
  ·have hab':((a.binds.map qaY)=[])=False:=by simpa using hab
   have hpos:=List.length_pos_iff.2 hab
   rcases hO with ⟨x1,rfl⟩ | ⟨x1,t,rfl,x3⟩
   ·have:s=[]:=List.length_eq_zero_iff.1 x1
    subst this
    have hlen:a.binds.length≤1073741824:=by simpa using hlen
    simp -implicitDefEqProofs only[qam,qad,qae,qab,qal,qac,qah,aOp,opd,qai,qa3,qaB,qag,qaZ,qbb,qba,qas,qaj,qaA,qby,qbC,qaG,leaf,qar,qaV,qa0,qaf,qbR,Option.map_some,List.map_cons,List.map_nil,List.length_cons,List.length_nil,List.length_append,List.length_map,List.cons_append,List.nil_append,List.append_nil,List.append_assoc,List.getElem?_cons_zero,List.getElem?_cons_succ,List.take_succ_cons,List.take_zero,List.drop_succ_cons,List.drop_zero,List.take_nil,List.drop_nil,List.all_cons,List.all_nil,↓reduceIte,Bool.and_true,Bool.false_eq_true,decide_true,and_self,Nat.le_refl,Nat.zero_add,Nat.reduceEqDiff,Nat.reduceAdd,Int.toNat_natCast,Int.natCast_nonneg,qaz,qb8,qbI,h1,h2,h3,hab',hlen,hs3,hgl,hsl] at hrr
    subst hrr
    refine⟨_,hr0,_,_,rfl,.inr ⟨by simpa using hpos,_,rfl,?_⟩⟩
    simp
   ·have x4:=hlt x3
    simp -implicitDefEqProofs only[qam,qad,qae,qab,qal,qac,qah,aOp,opd,qai,qa3,qaB,qag,qaZ,qbb,qba,qas,qaj,qaA,qby,qbC,qaG,leaf,qar,qaV,qa0,qaf,qbR,Option.map_some,List.map_cons,List.map_nil,List.length_cons,List.length_nil,List.length_map,List.nil_append,List.append_nil,List.getElem?_cons_zero,List.getElem?_cons_succ,List.take_succ_cons,List.take_zero,List.drop_succ_cons,List.drop_zero,List.take_nil,List.drop_nil,List.all_cons,List.all_nil,↓reduceIte,Bool.and_true,Bool.false_eq_true,decide_true,and_self,Nat.le_refl,Nat.zero_add,Nat.reduceEqDiff,Nat.reduceAdd,Int.toNat_natCast,Int.natCast_nonneg,qaz,qb8,qbI,h1,h2,h3,hab',hlen,hs1,hs3,hgl,hsl,hsa,hga,x3,x4] at hrr
    subst hrr
    refine⟨_,hr0,_,some (some t),by rw[List.map_append],.inr ⟨by simp;omega,t,rfl,?_⟩⟩
    rw[hga (by simpa using x4),hgs x4,List.length_append]
 ·intro st hst
  obtain⟨H',ow',rfl,hO⟩:=hst
  have h0:=qbA as.length
  rw[List.take_length]
  refine⟨_,?_,H',ow',rfl⟩
  unfold qg8
  simp -implicitDefEqProofs only[qad,qae,qab,qbk,qac,qah,aOp,opd,qai,qaB,qag,qbb,qba,qaj,gcE,qa0,qaf,List.map_cons,List.map_nil,List.drop_succ_cons,List.drop_zero,↓reduceIte,Bool.false_eq_true,decide_true,decide_false,Nat.reduceEqDiff,qaz,List.map_append,h0]
 ·exact⟨H,ow,by rw[List.take_zero,List.flatMap_nil,List.append_nil];rfl,by rw[List.take_zero,List.flatMap_nil,List.append_nil];exact ho⟩
theorem qtS (hL:Plain L) (h141:L.fns 141=some fm141) (x:CExpr) (hl:x.alts.length<2 ^ 30) (ht:(x.binds++x.alts.flatMap (·.binds)).length≤2 ^ 30) (h:Heap) :
  pcall L 141 [qaP x] h=some (.val (.list ((qbQ x).map qaY) none),h):=by
 refine qbK hL h141 (by rw[qaa];exact qay _) ?_ h
 rw[qbF]
 unfold qbQ qb3
 have hlB:(x.alts.flatMap (·.binds)).length≤2 ^ 30:=by rw[List.length_append] at ht;omega
 have hall:=qdM x.binds
 have hbl:x.binds.length≤1073741824:=by rw[List.length_append] at ht;omega
 have hdI:=qay
 cases ho:qf9 x.op with
 | true =>
   have e:(x.op==2)=true∨((x.op==2)=false∧(x.op==4)=true)∨((x.op==2)=false∧(x.op==4)=false∧(x.op==5)=true):=by
    unfold qf9 at ho
    revert ho
    cases (x.op==2)<;>cases (x.op==4)<;>cases (x.op==5)<;>simp
   rw[if_pos rfl]
   by_cases hb:x.binds=[]
   ·have hb':x.binds.map qaY=[]:=by rw[hb];rfl
    obtain⟨T,t1,H',ow',rfl⟩:=qmF (L:=L) (b:=1) x.alts hl [] (by simpa using hlB) [.box [.int .i64 x.op,.int .i64 x.n,.list [] none,.list (x.kids.map qaY) none,.list (x.alts.map qaU) none]] (some none) (.inl ⟨rfl,rfl⟩)
    rw[List.nil_append,List.map_nil] at t1
    rw[hb,List.nil_append]
    generalize x.alts.flatMap (·.binds)=r at *
    rcases e with e1 | ⟨e1,e2⟩ | ⟨e1,e2,e3⟩
    ·unfold fm141;simp -implicitDefEqProofs only[qad,qae,qab,qap,qac,qau,qah,aOp,opd,qai,qak,qaB,qag,qbb,qcg,qba,qaj,qaw,qaA,qaG,qar,qaT,qan,qax,qaH,qaS,qa0,qaf,qbR,qbY,qc4,Option.getD_some,List.map_cons,List.map_nil,List.length_cons,List.length_nil,List.length_map,List.nil_append,List.getElem?_cons_zero,List.getElem?_cons_succ,List.drop_succ_cons,List.drop_zero,↓reduceIte,Bool.false_eq_true,decide_true,Nat.add_zero,Nat.zero_add,Nat.reduceEqDiff,qaI,e1,hb',t1,hdI]
    ·unfold fm141;simp -implicitDefEqProofs only[qad,qae,qab,qap,qac,qau,qah,aOp,opd,qai,qak,qaB,qag,qbb,qcg,qba,qaj,qaw,qaA,qaG,qar,qaT,qan,qax,qaH,qaS,qa0,qaf,qbR,qbY,qc4,beq_self_eq_true,Option.getD_some,List.map_cons,List.map_nil,List.length_cons,List.length_nil,List.length_map,List.nil_append,List.getElem?_cons_zero,List.getElem?_cons_succ,List.drop_succ_cons,List.drop_zero,↓reduceIte,Bool.false_eq_true,decide_true,Nat.add_zero,Nat.zero_add,Nat.reduceEqDiff,qaI,e1,e2,hb',t1,hdI]
    ·unfold fm141;simp -implicitDefEqProofs only[qad,qae,qab,qap,qac,qau,qah,aOp,opd,qai,qak,qaB,qag,qbb,qcg,qba,qaj,qaw,qaA,qaG,qar,qaT,qan,qax,qaH,qaS,qa0,qaf,qbR,qbY,beq_self_eq_true,Option.getD_some,List.map_cons,List.map_nil,List.length_cons,List.length_nil,List.length_map,List.nil_append,List.getElem?_cons_zero,List.getElem?_cons_succ,List.drop_succ_cons,List.drop_zero,↓reduceIte,Bool.false_eq_true,decide_true,Nat.add_zero,Nat.zero_add,Nat.reduceEqDiff,qaI,e1,e2,e3,hb',t1,hdI]
   ·have hb':((x.binds.map qaY)=[])=False:=by simpa using hb
    have hpos:=List.length_pos_iff.2 hb
    obtain⟨T,t1,H',ow',rfl⟩:=qmF (L:=L) (b:=2) x.alts hl x.binds ht [.box [.int .i64 x.op,.int .i64 x.n,.list (x.binds.map qaY) none,.list (x.kids.map qaY) none,.list (x.alts.map qaU) none],.tail x.binds.length 1] (some (some 1)) (.inr ⟨hpos,1,rfl,rfl⟩)
    rw[List.map_append] at t1
    generalize x.alts.flatMap (·.binds)=r at *
    rcases e with e1 | ⟨e1,e2⟩ | ⟨e1,e2,e3⟩
    ·unfold fm141;simp -implicitDefEqProofs only[qad,qae,qab,qap,qac,qau,qah,aOp,opd,qai,qak,qaB,qag,qbb,qcg,qba,qaj,qaw,qaA,qaG,qar,qaT,qan,qax,qaH,qaS,qa0,qaf,qbR,qbY,qc4,Option.getD_some,List.map_cons,List.map_nil,List.length_cons,List.length_nil,List.length_map,List.cons_append,List.nil_append,List.getElem?_cons_zero,List.getElem?_cons_succ,List.drop_succ_cons,List.drop_zero,List.all_nil,↓reduceIte,Bool.false_eq_true,decide_true,and_self,Nat.add_zero,Nat.zero_add,Nat.reduceEqDiff,Nat.reduceAdd,qb8,List.map_append,qaI,e1,hb',hall,hbl,t1,hdI]
    ·unfold fm141;simp -implicitDefEqProofs only[qad,qae,qab,qap,qac,qau,qah,aOp,opd,qai,qak,qaB,qag,qbb,qcg,qba,qaj,qaw,qaA,qaG,qar,qaT,qan,qax,qaH,qaS,qa0,qaf,qbR,qbY,qc4,beq_self_eq_true,Option.getD_some,List.map_cons,List.map_nil,List.length_cons,List.length_nil,List.length_map,List.cons_append,List.nil_append,List.getElem?_cons_zero,List.getElem?_cons_succ,List.drop_succ_cons,List.drop_zero,List.all_nil,↓reduceIte,Bool.false_eq_true,decide_true,and_self,Nat.add_zero,Nat.zero_add,Nat.reduceEqDiff,Nat.reduceAdd,qb8,List.map_append,qaI,e1,e2,hb',hall,hbl,t1,hdI]
    ·unfold fm141;simp -implicitDefEqProofs only[qad,qae,qab,qap,qac,qau,qah,aOp,opd,qai,qak,qaB,qag,qbb,qcg,qba,qaj,qaw,qaA,qaG,qar,qaT,qan,qax,qaH,qaS,qa0,qaf,qbR,qbY,beq_self_eq_true,Option.getD_some,List.map_cons,List.map_nil,List.length_cons,List.length_nil,List.length_map,List.cons_append,List.nil_append,List.getElem?_cons_zero,List.getElem?_cons_succ,List.drop_succ_cons,List.drop_zero,List.all_nil,↓reduceIte,Bool.false_eq_true,decide_true,and_self,Nat.add_zero,Nat.zero_add,Nat.reduceEqDiff,Nat.reduceAdd,qb8,List.map_append,qaI,e1,e2,e3,hb',hall,hbl,t1,hdI]
 | false =>
   have e:(x.op==2)=false∧(x.op==4)=false∧(x.op==5)=false:=by
    unfold qf9 at ho
    revert ho
    cases (x.op==2)<;>cases (x.op==4)<;>cases (x.op==5)<;>simp
   obtain⟨e1,e2,e3⟩:=e
   rw[if_neg (by decide),List.nil_append]
   obtain⟨T,t1,H',ow',rfl⟩:=qmF (L:=L) (b:=1) x.alts hl [] (by simpa using hlB) [.box [.int .i64 x.op,.int .i64 x.n,.list (x.binds.map qaY) none,.list (x.kids.map qaY) none,.list (x.alts.map qaU) none]] (some none) (.inl ⟨rfl,rfl⟩)
   rw[List.nil_append,List.map_nil] at t1
   generalize x.alts.flatMap (·.binds)=r at *
   unfold fm141
   simp -implicitDefEqProofs only[qam,qad,qae,qab,qap,qac,qau,qah,aOp,opd,qai,qak,qaB,qag,qbb,qcg,qba,qaj,qaw,qaA,qaG,qar,qaT,qan,qax,qaH,qaS,qa0,qaf,qbY,beq_self_eq_true,Option.getD_some,List.map_cons,List.map_nil,List.length_cons,List.length_nil,List.length_map,List.nil_append,List.getElem?_cons_zero,List.getElem?_cons_succ,List.drop_succ_cons,List.drop_zero,↓reduceIte,Bool.false_eq_true,decide_true,Nat.add_zero,Nat.zero_add,Nat.reduceEqDiff,qaI,e1,e2,e3,t1,hdI]
end
end Go.Abs
