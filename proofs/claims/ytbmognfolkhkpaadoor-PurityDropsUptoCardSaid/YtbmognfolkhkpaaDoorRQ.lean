/-
  PARTS OF A PROOF, joined: an abstract machine for quiet code, its evaluation, and what the seat's functions answer on it. Conditions: none.
-/
import Derived.Test.YtbmognfolkhkpaaDoorRM
import Derived.Test.YtbmognfolkhkpaaDoorD
import Derived.Test.YtbmognfolkhkpaaDoorPurF
set_option linter.unusedVariables false
set_option linter.unusedSimpArgs false
set_option maxRecDepth 100000
set_option maxHeartbeats 8000000
namespace Go.Abs
theorem qsG {n:Int} {bl kl:Nat} {as:List CAlt} (h:qb1 1 n bl kl as=true):kl=0:=by
 unfold qb1 kbu qcF at h
 simp only[Bool.and_eq_true,beq_iff_eq] at h
 simp at h
 omega
theorem qmN {op n:Int} {ks:List CTree} {as:List CAlt} (h:op=0∨op=1∨op=2∨op=4∨op=5∨op=6∨op=9):qgE op n ks as=0:=by
 unfold qgE
 rcases h with rfl | rfl | rfl | rfl | rfl | rfl | rfl<;>simp
theorem qgy (e:List CExpr) (acc:List Nat) (x:CExpr) (h3:x.op≠3):∀ (ks:List Int) (k v:Nat),(∀ j (hj:j<ks.length),(x.op=2∨(x.op=5∧k+j<x.binds.length))∨acc.getD ks[j].toNat 0=0)→qey e acc x ks k v=v
 | [],_,_,_=>rfl
 | kid :: ks,k,v,h => by
   rw[qey]
   have h0:=h 0 (by simp)
   simp only[Nat.add_zero,List.getElem_cons_zero] at h0
   have e1:qit e acc x k v kid=v:=by
    unfold qit
    by_cases hc:x.op=2∨(x.op=5∧k<x.binds.length)
    ·rw[if_pos hc]
    ·rw[if_neg hc,if_neg (fun h=>h3 h.1)]
     rcases h0 with h0 | h0
     ·exact absurd h0 hc
     ·rw[h0,Nat.or_zero]
   rw[e1]
   refine qgy e acc x h3 ks (k+1) v fun j hj=>?_
   have:=h (j+1) (by simpa using hj)
   simp only[List.getElem_cons_succ] at this
   rw[show k+1+j=k+(j+1) by omega]
   exact this
theorem qmd:∀ {ks:List CTree},qiD ks=true→∀ j (hj:j<ks.length),qhs ks[j]=true
 | k :: ks,h,j,hj => by
   rw[qiD,Bool.and_eq_true] at h
   cases j with
   | zero=>exact h.1
   | succ j=>exact qmd h.2 j (by simpa using hj)
theorem qk5:∀ {ks:List CTree},qf9 ks=true→∀ (hj:ks.length-1<ks.length),qhs (ks[ks.length-1]'hj)=true
 | [],_,hj=>by simp at hj
 | [k],h,hj => by
   rw[qf9] at h
   simpa using h
 | k :: k2 :: ks,h,hj => by
   rw[qf9] at h
   have h':qf9 (k2::ks)=true:=by simpa using h
   have:=qk5 h' (by simp)
   simpa using this
theorem qwS {e:List CExpr} (hz:qb6 e=0):∀ (i:Nat) (hi:i<e.length),qhs (qcq e i)=true→(qby e e []).getD i 0=0:=by
 intro i
 induction i using Nat.strongRecOn with
 | _ i ih =>
 intro hi hv
 obtain⟨hT,_,_,hlab,_⟩:=qdI hz
 have hs:=qgz (hlab e[i] (List.getElem_mem hi))
 unfold qhI at hs
 dsimp only at hs
 rw[List.length_map] at hs
 have hA:qfj e:=hT.ahead
 rw[qdl e hA i hi,qhs,List.length_map] at hv
 have hkid:∀ j (hj:j<e[i].kids.length),qhs (qcq e e[i].kids[j].toNat)=true→(qby e (e.take i) []).getD e[i].kids[j].toNat 0=0:=by
  intro j hj hvk
  have ha:=hA i hi e[i].kids[j] (List.getElem_mem hj)
  rw[qu2 e i e[i].kids[j].toNat (by omega) (by omega)]
  exact ih _ (by omega) (by omega) hvk
 have hall:qiD (e[i].kids.map fun k=>qcq e k.toNat)=true→∀ j (hj:j<e[i].kids.length),(qby e (e.take i) []).getD e[i].kids[j].toNat 0=0:=by
  intro h j hj
  have:=qmd h j (by simpa using hj)
  rw[List.getElem_map] at this
  exact hkid j hj this
 rw[qw2 e i hi]
 unfold qkk
 by_cases h1:(qnf e[i].op e[i].kids.length || e[i].op==2)=true
 ·rw[Bool.or_eq_true] at h1
  rcases h1 with h1 | h1
  ·unfold qnf at h1
   simp only[Bool.or_eq_true,Bool.and_eq_true,beq_iff_eq] at h1
   have hk:e[i].kids=[]:=by
    rcases h1 with h1 | h1 | ⟨h1,h2⟩
    ·rw[h1] at hs
     exact List.length_eq_zero_iff.1 (qkW hs)
    ·rw[h1] at hs
     exact List.length_eq_zero_iff.1 (qsG hs)
    ·exact List.length_eq_zero_iff.1 (by omega)
   rw[hk,qey,qmN (by rcases h1 with h1 | h1 | ⟨h1,_⟩<;>simp[h1])]
  ·have h2:e[i].op=2:=by simpa using h1
   rw[qkE _ _ _ h2,qmN (by simp[h2])]
 ·rw[if_neg h1] at hv
  by_cases h5:e[i].op=5
  ·rw[if_pos (by simp[h5])] at hv
   have hlen:=qgM hs h5
   rw[qgy _ _ _ (by omega) _ _ _ fun j hj=>?_,qmN (by simp[h5])]
   by_cases hjb:j<e[i].binds.length
   ·exact .inl (.inr ⟨h5,by omega⟩)
   ·refine .inr (hkid j hj ?_)
    have:=qk5 hv (by simp;omega)
    rw[List.getElem_map] at this
    have ej:(e[i].kids.map fun k=>qcq e k.toNat).length-1=j:=by simp;omega
    simp only[ej] at this
    exact this
  ·rw[if_neg (by simpa using h5)] at hv
   split at hv
   ·rename_i h6
    simp only[Bool.or_eq_true,beq_iff_eq] at h6
    rw[qgy _ _ _ (by omega) _ _ _ fun j hj=>.inr (hall hv j hj),qmN (by omega)]
   ·cases hv
theorem qto {t':CTree} {n id:Int} {bs:List Int} {v body:CTree} {alts:List CAlt} (h:qsB 3 0 (.mk 4 n (id::bs) [v,body] alts)=some t'):qhs v=true:=by
 obtain⟨vo,vn,vb,vk,va⟩:=v
 rw[qsB,if_neg (by decide),if_neg (by rintro ⟨h,_⟩;exact absurd h (by decide)),if_pos rfl,qhJ,if_neg (by rintro ⟨h,_⟩;exact absurd h (by decide))] at h
 by_cases hc:(3:Int)=3∧qjp id body=0∧qhs (.mk vo vn vb vk va)=true
 ·exact hc.2.2
 ·rw[if_neg hc,if_neg (by rintro ⟨h,_⟩;exact absurd h (by decide)),if_neg (by rintro ⟨h,_⟩;exact absurd h (by decide)),if_neg (by rintro ⟨h,_⟩;exact absurd h (by decide))] at h
  cases h
end Go.Abs
set_option linter.unusedVariables false
set_option linter.unusedSimpArgs false
set_option maxRecDepth 100000
set_option maxHeartbeats 8000000
namespace Go.Abs
theorem qrA {e:List CExpr} (hz:qb6 e=0) (i:Nat) (hi:i<e.length) (h4:e[i].op=4) (h0:(qeS e 3 i 0).2=0):∃ k0 k1,e[i].kids=[k0,k1]∧0≤k0∧k0<i∧(qby e e []).getD k0.toNat 0=0:=by
 obtain⟨hT,_,_,hlab,_⟩:=qdI hz
 have hs:=qgz (hlab e[i] (List.getElem_mem hi))
 unfold qhI at hs
 dsimp only at hs
 rw[List.length_map] at hs
 have hA:qfj e:=hT.ahead
 obtain⟨s1,s2,s3,s4⟩:=qgL hs h4
 have hb:∃ id,e[i].binds=[id]:=by
  generalize e[i].binds=bl at s2
  rcases bl with _ | ⟨a,_ | ⟨b,l⟩⟩
  ·simp at s2
  ·exact⟨a,rfl⟩
  ·simp at s2
 have hk:∃ k0 k1,e[i].kids=[k0,k1]:=by
  generalize e[i].kids=kl at s1
  rcases kl with _ | ⟨a,_ | ⟨b,_ | ⟨c,l⟩⟩⟩
  ·simp at s1
  ·simp at s1
  ·exact⟨a,b,rfl⟩
  ·simp at s1
 obtain⟨id,hb⟩:=hb
 obtain⟨k0,k1,hk⟩:=hk
 have ha0:=hA i hi k0 (by rw[hk];exact List.mem_cons_self)
 have ht:=qdl e hA i hi
 rw[h4,hb,hk] at ht
 simp only[List.map_cons,List.map_nil] at ht
 refine⟨k0,k1,hk,ha0.1,ha0.2,qwS hz k0.toNat (by omega) ?_⟩
 unfold qeS at h0
 rw[if_pos hz,if_neg (by omega),if_neg (by omega),Int.toNat_natCast,ht] at h0
 cases hr:qsB 3 0 (.mk 4 e[i].n [id] [qcq e k0.toNat,qcq e k1.toNat] e[i].alts) with
 | none =>
   rw[hr] at h0
   exact absurd (show (12:Int)=0 from h0) (by decide)
 | some t'=>exact qto hr
section
variable {L:Lib} (hR:RLib L) (hC:CLib2 L) (hP:PLib L)
include hR hC hP
theorem qpg (h272:L.fns 272=some fn272) (h145:L.fns 145=some fn145) (h153:L.fns 153=some fn153) (h174:L.fns 174=some fn174) (e:List CExpr) (hl:e.length<2 ^ 30) (hf:∀ x∈e,NodeFit x) (h:Heap) :
  pcall L 272 [.list (e.map qaO) none] h=some (.val (.bool true),h):=by
 have hL:=hC.plain
 have hp:=hL.pure
 have hdE:=qbu e
 have hpur:=quF hC hP e hl hf
 have hfact:=qqN hC hP h145 h153 h174
 have hap:=fun n (h:Heap)=>qs9 hR e hl hf 3 n 0 ⟨by decide,by decide⟩ h
 refine qbL hL h272 rfl ?_ h
 unfold qqO at hpur
 by_cases hz:qb6 e=0
 case neg =>
  have hne:(qb6 e != 0)=true:=by simpa using hz
  simp only[hz,if_false,List.map_nil] at hpur
  generalize qb6 e=r at *
  unfold fn272
  simp -implicitDefEqProofs only[qad,qae,qab,qar,qac,qap,qah,aOp,opd,qak,qal,qag,qba,qa8,qaj,qax,qaS,qao,qaw,qaI,qbx,qa7,qaa,qav,qat,qde,beq_self_eq_true,Option.getD_some,List.map_cons,List.map_nil,List.getElem?_cons_zero,List.getElem?_cons_succ,↓reduceIte,Bool.and_true,Bool.false_eq_true,and_self,reduceCtorEq,Nat.reduceEqDiff,qa3,qaD,hpur,hne,hfact,hdE,qaK L hp,hp,Int.natCast_zero]
 simp only[hz,if_true] at hpur
 have hlen:(qby e e []).length=e.length:=by rw[qd9];simp
 have hget:∀ m,m<e.length→((qby e e []).map qhO)[m]? = some (.int .i64 ((qby e e []).getD m 0:Nat)):=by
  intro m hm
  rw[List.getElem?_map,List.getD_eq_getElem?_getD,List.getElem?_eq_getElem (by omega)]
  rfl
 have hdN:qaZ ((qby e e []).map qhO)=true:=qcW qhO (fun _=>rfl) _
 have hdrop:=fun i hi h4 h0=>qrA hz i hi h4 h0
 generalize hEF:qby e e []=F at *
 have hl0:qb7 L.pure (call L) 0 [0,3,28,29,30] [2] 0 qg7 ⟨kt [0,3,28,29,30] [.list (e.map qaO) none,.list (F.map qhO) none,.list (e.map qaO) none,.int .i64 e.length,.int .i64 ((0:Nat):Int)],[]⟩=some (.normal,⟨kt [2] [.junk],[]⟩):=by
  refine qeb (fun i=>⟨kt [0,3,28,29,30] [.list (e.map qaO) none,.list (F.map qhO) none,.list (e.map qaO) none,.int .i64 e.length,.int .i64 (i:Int)],[]⟩) e.length ?_ ?_
  ·intro i hi
   obtain⟨h1,h2,h3⟩:=qbF qaO e hl i hi
   have hdX:=qaP e[i].alts
   by_cases e4:e[i].op=4
   ·have b4:(e[i].op==4)=true:=by simpa using e4
    have hap:=hap i
    have hdR:=qbu (qeS e 3 i 0).1
    by_cases ez:(qeS e 3 i 0).2=0
    ·obtain⟨k0,k1,hk,hk0,hk1,hzero⟩:=hdrop i hi e4 ez
     have hgk:=hget k0.toNat (by omega)
     rw[hzero] at hgk
     have hgk:(F.map qhO)[k0.toNat]? = some (.int .i64 0):=hgk
     rw[ez] at hap
     have hkk:e[i].kids.map qa4=[.int .i64 k0,.int .i64 k1]:=by rw[hk];rfl
     generalize (qeS e 3 i 0).1=R at *
     clear hdrop hpur hk
     generalize e[i]=x at *
     unfold qg7
     simp -implicitDefEqProofs only[qam,qad,qae,qab,qai,qac,qap,qah,aOp,opd,qak,qaW,qaB,qag,qaV,qba,qa8,qan,qaj,qax,qay,qbr,qbE,qaE,qcK,qcX,leaf,qau,qaJ,qaR,qaX,qaf,qaF,qas,qaG,qa5,ren,renC,qbT,qb2,qcf,qbx,qbz,qaa,qaq,qcc,qav,qat,beq_self_eq_true,Option.map_some,List.map_cons,List.map_nil,List.flatMap_cons,List.flatMap_nil,List.length_cons,List.length_nil,List.cons_append,List.nil_append,List.append_nil,List.getElem?_cons_zero,List.getElem?_cons_succ,List.set_cons_zero,List.take_succ_cons,List.take_zero,List.drop_succ_cons,List.drop_zero,List.take_nil,List.drop_nil,List.all_cons,List.all_nil,↓reduceIte,Bool.and_true,Bool.not_true,Bool.false_eq_true,decide_true,decide_false,and_self,Nat.le_refl,Nat.zero_le,reduceCtorEq,Nat.add_zero,Nat.zero_add,Nat.reduceEqDiff,Nat.reduceAdd,Nat.reduceLeDiff,Int.reduceToNat,Int.toNat_natCast,Int.natCast_nonneg,qaz,qa0,qa3,qbB,Int.le_refl,h1,h2,h3,b4,hap,hkk,hk0,hgk,hdN,hdE,hdX,hdR,qaK L hp,hp,bne]
    ·have bz:((qeS e 3 i 0).2==0)=false:=by simpa using ez
     generalize (qeS e 3 i 0).1=R at *
     generalize (qeS e 3 i 0).2=r at *
     clear hdrop hpur
     generalize e[i]=x at *
     unfold qg7
     simp -implicitDefEqProofs only[qam,qad,qae,qab,qai,qac,qap,qah,aOp,opd,qak,qaW,qaB,qag,qaV,qba,qa8,qan,qaj,qax,qay,qbr,qbE,qaE,qcK,qcX,leaf,qau,qaJ,qaR,qaX,qaf,qaF,qas,qaG,qa5,ren,renC,qbT,qb2,qcf,qbx,qbz,qaa,qaq,qcc,qav,qat,qbN,Option.map_some,List.map_cons,List.map_nil,List.flatMap_cons,List.flatMap_nil,List.length_cons,List.length_nil,List.cons_append,List.nil_append,List.append_nil,List.getElem?_cons_zero,List.getElem?_cons_succ,List.set_cons_zero,List.take_succ_cons,List.take_zero,List.drop_succ_cons,List.drop_zero,List.take_nil,List.drop_nil,List.all_cons,List.all_nil,↓reduceIte,Bool.and_true,Bool.not_true,Bool.false_eq_true,decide_true,decide_false,and_self,Nat.le_refl,Nat.zero_le,reduceCtorEq,Nat.add_zero,Nat.zero_add,Nat.reduceEqDiff,Nat.reduceAdd,Nat.reduceLeDiff,Int.toNat_natCast,Int.natCast_nonneg,qaz,qa0,qa3,qbB,h1,h2,h3,b4,bz,hap,hdN,hdE,hdX,hdR,qaK L hp,hp,bne]
   ·have b4:(e[i].op==4)=false:=by simpa using e4
    clear hdrop hpur hap
    generalize e[i]=x at *
    unfold qg7
    simp -implicitDefEqProofs only[qam,qad,qae,qab,qai,qbj,qac,qah,aOp,opd,qak,qaW,qaB,qag,qaV,qba,qa8,qan,qaj,qay,qbr,qbE,qaE,leaf,qau,qaR,qaX,qaf,qaF,qas,qaG,qa5,ren,renC,qbT,qb2,qaa,qaq,Option.map_some,List.map_cons,List.map_nil,List.flatMap_cons,List.flatMap_nil,List.length_cons,List.length_nil,List.nil_append,List.append_nil,List.getElem?_cons_zero,List.set_cons_zero,List.take_succ_cons,List.take_zero,List.drop_succ_cons,List.drop_zero,List.take_nil,List.drop_nil,List.all_cons,List.all_nil,↓reduceIte,Bool.and_true,Bool.not_false,Bool.false_eq_true,decide_true,decide_false,and_self,Nat.le_refl,Nat.zero_le,reduceCtorEq,Nat.add_zero,Nat.zero_add,Nat.reduceEqDiff,Nat.reduceAdd,Int.toNat_natCast,Int.natCast_nonneg,qaz,qa0,qbB,h1,h2,h3,b4,hdN,hdE,hdX,bne]
  ·have h0:=qbG e.length
   unfold qg7
   simp -implicitDefEqProofs only[qad,qae,qab,qbj,qac,qah,aOp,opd,qak,qaB,qag,qba,qa8,qaj,gcE,qaX,qaf,qaF,qas,qaG,qa5,ren,renC,qbb,qbT,qb2,qbS,Option.getD_none,List.map_cons,List.map_nil,List.flatMap_cons,List.flatMap_nil,List.length_nil,List.append_nil,List.getElem?_nil,List.take_nil,↓reduceIte,Bool.false_eq_true,decide_false,Nat.le_refl,reduceCtorEq,Nat.reduceEqDiff,qaz,qa0,h0]
 have hll:((F.length:Int)==(e.length:Int))=true:=by rw[hlen];simp
 simp only[Int.natCast_zero] at hl0
 unfold fn272
 simp -implicitDefEqProofs only[qam,qad,qae,qab,qar,qac,qap,qah,aOp,opd,qak,qal,qag,qba,qcb,qa8,qaj,qax,qaS,qao,qaw,qaI,qaU,qaX,qaf,qaF,qas,qaG,qa5,ren,renC,qbb,qbT,qb2,qbx,qa7,qaa,qaq,qav,qat,beq_self_eq_true,Option.getD_some,Option.getD_none,List.map_cons,List.map_nil,List.flatMap_cons,List.flatMap_nil,List.length_nil,List.length_map,List.append_nil,List.getElem?_nil,List.getElem?_cons_zero,List.getElem?_cons_succ,List.take_nil,↓reduceIte,Bool.and_true,Bool.not_true,Bool.false_eq_true,decide_false,and_self,Nat.le_refl,reduceCtorEq,Nat.reduceEqDiff,qa3,qaD,hpur,hll,hfact,hl0,hdE,hdN,qaK L hp,hp,bne]
end
end Go.Abs
