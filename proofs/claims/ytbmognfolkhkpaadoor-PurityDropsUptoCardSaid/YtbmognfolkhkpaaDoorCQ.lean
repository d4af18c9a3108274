/-
  PARTS OF A PROOF, joined: an abstract machine for quiet code, its evaluation, and what the seat's functions answer on it. Conditions: none.
-/
import Derived.Test.YtbmognfolkhkpaaDoorN
import Derived.Test.YtbmognfolkhkpaaDoorC
set_option linter.unusedVariables false
set_option linter.unusedSimpArgs false
set_option maxRecDepth 100000
set_option maxHeartbeats 4000000
namespace Go.Abs
theorem qkm:∀ (as:List CAlt) (b:Int),b≤qci b as∧∀ a∈as,(a.binds.length:Int)≤qci b as
 | [],b=>⟨Int.le_refl _,by simp⟩
 | a :: as,b => by
   obtain⟨h1,h2⟩:=qkm as (max b (a.binds.length:Int))
   have e:qci b (a::as)=qci (max b (a.binds.length:Int)) as:=rfl
   rw[e]
   refine⟨by omega,fun x hx=>?_⟩
   rcases List.mem_cons.1 hx with rfl | hx
   ·omega
   ·exact h2 x hx
theorem qiy {op n:Int} {binds:List Int} {kl:Nat} {as:List CAlt} (h:qd0 op n binds kl as=0):qci binds.length as≤16:=by
 unfold qd0 at h
 split at h
 ·cases h
 ·split at h
  ·cases h
  ·split at h
   ·cases h
   ·split at h
    ·cases h
    ·rename_i ht
     unfold qk1 at ht
     simp only[Bool.or_eq_true,decide_eq_true_eq,not_or] at ht
     have:=ht.1.1.1
     split at this<;>omega
theorem qqZ {op n:Int} {bl kl:Nat} {as:List CAlt} (h:qb1 op n bl kl as=true):as.length=0∨kl=as.length+1:=by
 unfold qb1 at h
 split at h
 ·simp only[Bool.and_eq_true] at h
  have:=h.1.1
  unfold qj9 at this
  simp only[Bool.and_eq_true,beq_iff_eq] at this
  right
  omega
 ·split at h
  ·cases h
  ·unfold qcF at h
   simp only[Bool.and_eq_true,beq_iff_eq] at h
   left
   omega
theorem qqz (as:List CAlt) (h:∀ a∈as,a.binds.length≤16):(as.flatMap (·.binds)).length≤16*as.length:=by
 induction as with
 | nil=>simp
 | cons a as ih =>
   rw[List.flatMap_cons,List.length_append,List.length_cons]
   have:=h a (by simp)
   have:=ih fun x hx=>h x (by simp[hx])
   omega
theorem qpN {l:Lab} (h:qqy l=0) (hk:l.kops.length≤4096):(l.binds++l.alts.flatMap (·.binds)).length≤16+16*4096:=by
 unfold qqy at h
 split at h
 ·cases h
 ·rename_i hs
  have hs:qb1 l.op l.n l.binds.length l.kops.length l.alts=true:=by simpa using hs
  split at h
  ·rename_i hr;exact absurd h hr
  ·rename_i hr
   have hr:qd0 l.op l.n l.binds l.kops.length l.alts=0:=Classical.not_not.1 hr
   have hf:=qiy hr
   obtain⟨h1,h2⟩:=qkm l.alts (l.binds.length:Int)
   have h3:=qqz l.alts fun a ha=>by have:=h2 a ha;omega
   rw[List.length_append]
   rcases qqZ hs with h4 | h4<;>omega
theorem qqG (e:List CExpr) (h:TreeL e):(e.flatMap (·.kids)).length+1=e.length:=by
 have h1:=(qfb e h).length_eq
 rw[List.length_range,List.length_cons] at h1
 have h2:((List.range e.length).flatMap (qcn e)).length=(e.flatMap (·.kids)).length:=by
  have h3:e=(List.range e.length).map fun i=>(e[i]?).getD ⟨0,0,[],[],[]⟩:=by
   refine List.ext_getElem (by simp) fun i h1 h2=>?_
   simp[h1]
  conv=>rhs;rw[h3,List.flatMap_map]
  rw[List.length_flatMap,List.length_flatMap]
  congr 1
  refine List.map_congr_left fun i hi=>?_
  have hi:=List.mem_range.1 hi
  unfold qcn
  simp[hi]
 omega
theorem qo6 (e:List CExpr) (h:TreeL e) (x:CExpr) (hx:x∈e):x.kids.length≤e.length:=by
 have h1:=qqG e h
 obtain⟨s,t,rfl⟩:=List.append_of_mem hx
 rw[List.flatMap_append,List.flatMap_cons,List.length_append,List.length_append] at h1
 omega
theorem qud {β:Type} (v:Int) (b:β) (m:IM β):(qqg v b m).length≤m.length+1:=by
 have hins:∀ m:IM β,(qmD v b m).length=m.length+1:=by
  intro m
  induction m with
  | nil=>rfl
  | cons p m ih=>unfold qmD;split<;>simp[ih]
 unfold qqg
 split
 ·unfold qog;simp
 ·rw[hins];omega
mutual
theorem qpP:∀ (t:CTree) (s:FS),(qfh t s).2.length≤s.2.length+qbA t
 | .mk op n binds kids alts,s => by
   rw[qfh,qbA]
   have:=qnw op binds alts kids 0 (qe9 op n s)
   have h2:(qe9 op n s).2.length≤s.2.length+1:=by
    unfold qe9
    split
    ·exact qud _ _ _
    ·omega
   omega
theorem qnw (op:Int) (binds:List Int) (alts:List CAlt):∀ (ks:List CTree) (k:Nat) (s:FS),(qfp op binds alts ks k s).2.length≤s.2.length+qa9 ks
 | [],k,s=>by rw[qfp];omega
 | kid :: ks,k,s => by
   rw[qfp,qa9]
   have h1:=qnw op binds alts ks (k+1) ((qdB op binds alts k).foldl (qip (-1)) (qfh kid ((qdB op binds alts k).foldl (qip 1) s.1,s.2)).1,(qfh kid ((qdB op binds alts k).foldl (qip 1) s.1,s.2)).2)
   have h2:=qpP kid ((qdB op binds alts k).foldl (qip 1) s.1,s.2)
   dsimp only at h1 h2
   omega
end
theorem qpp (e:List CExpr) (hk:qfj e) (hf:∀ x∈e,NodeFit x) (hb:∀ x∈e,qs6 x):∀ i,i<e.length→TFit (qcq e i):=by
 intro i
 induction i using Nat.strongRecOn with
 | ind i ih =>
   intro hi
   rw[qdl e hk i hi]
   have hx:=hf e[i] (List.getElem_mem hi)
   refine .mk _ _ _ _ _ (hb e[i] (List.getElem_mem hi)) (by rw[List.length_map];exact hx.kids) hx.alts ?_
   intro k hkm
   obtain⟨q,hq,rfl⟩:=List.mem_map.1 hkm
   obtain⟨q0,q1⟩:=hk i hi q hq
   exact ih q.toNat (by omega) (by omega)
def qxl (flat:Bool) (op:Int):Bool:=(flat && qjH op) || (!flat && qjJ op)
def qdk (flat:Bool) (l:Lab):Int:=if qxl flat l.op=true then 3 else qqy l
def qmn (e:List CExpr) (ps:List Int) (flat:Bool):Int :=
 if qf6 e≠0 then qf6 e
 else if qcG (e.map fun x=>qdk flat (qhI e x))≠0 then qcG (e.map fun x=>qdk flat (qhI e x))
 else if qi6 e ps=true then 7
 else if ((qif (qdY e)).any fun n => !qoI ps n)=true then 6 else 0
theorem qfQ {α:Type} (g:α→Int):∀ (l:List α),qcG (l.map g)=0↔∀ x∈l,g x=0
 | []=>by simp[qcG]
 | x :: l => by
   rw[List.map_cons,qcG]
   by_cases h:g x=0
   ·rw[if_pos h,qfQ g l]
    simp[h]
   ·rw[if_neg h]
    simp[h]
structure CLib (L:Lib):Prop where
 plain:Plain L
 prims:CPrims L qbY
 f134:L.fns 134=some fn134
 f151:L.fns 151=some fn151
 grow:∀ (e:List CExpr) (h:Heap),e.length<2 ^ 30→(∀ x∈e,NodeFit x)→TreeL e→hgt (qdY e)≤400→pcall L 160 [.list (e.map qaO) none] h=some (.val (qa1 (qdY e)),h)
 f165:L.fns 165=some fn165
 f167:L.fns 167=some fn167
 f181:L.fns 181=some fn181
 f190:L.fns 190=some fn190
 f191:L.fns 191=some fn191
 f192:L.fns 192=some fn192
 f193:L.fns 193=some fn193
 f194:L.fns 194=some fn194
 f195:L.fns 195=some fn195
 f196:L.fns 196=some fn196
 f232:L.fns 232=some fn232
 f234:L.fns 234=some fn234
 f235:L.fns 235=some fn235
 f236:L.fns 236=some fn236
 f258:L.fns 258=some fn258
 f259:L.fns 259=some fn259
 f264:L.fns 264=some fn264
 f265:L.fns 265=some fn265
 f266:L.fns 266=some fn266
section
variable {L:Lib} (hC:CLib L)
include hC
theorem quO (e:List CExpr) (hl:e.length<2 ^ 30) (hf:∀ x∈e,NodeFit x) (hk:qfj e) (ps:List Int) (flat:Bool) :
  qb7 L.pure (call L) 1 [1,2,3,18,19,20] [1,3,6] 0 qej ⟨kt [1,2,3,18,19,20] [.list (ps.map qa4) none,.bool flat,.vptr [.list (e.map qaO) none] 0,.list (e.map qaO) none,.int .i64 e.length,.int .i64 ((0:Nat):Int)],[.gone]⟩ =
  some (if qcG (e.map fun x=>qdk flat (qhI e x))=0 then (.normal,⟨kt [1,3,6] [.list (ps.map qa4) none,.vptr [.list (e.map qaO) none] 0,.junk],[.gone]⟩)
   else (.ret,⟨kt [1,3,6] [.list (ps.map qa4) none,.vptr [.list (e.map qaO) none] 0,.int .i64 (qcG (e.map fun x=>qdk flat (qhI e x)))],[.gone]⟩)):=by
 have hL:=hC.plain
 have hp:=hL.pure
 have hdE:=qbu e
 have hround:∀ (i:Nat) (hi:i<e.length),qb8 L.pure (call L) 1 [1,2,3,18,19,20] [1,3,6] qej ⟨kt [1,2,3,18,19,20] [.list (ps.map qa4) none,.bool flat,.vptr [.list (e.map qaO) none] 0,.list (e.map qaO) none,.int .i64 e.length,.int .i64 i],[.gone]⟩ =
   some (if qdk flat (qhI e e[i])=0 then (.normal,⟨kt [1,2,3,18,19,20] [.list (ps.map qa4) none,.bool flat,.vptr [.list (e.map qaO) none] 0,.list (e.map qaO) none,.int .i64 e.length,.int .i64 ((i+1:Nat):Int)],[.gone]⟩)
    else (.ret,⟨kt [1,3,6] [.list (ps.map qa4) none,.vptr [.list (e.map qaO) none] 0,.int .i64 (qdk flat (qhI e e[i]))],[.gone]⟩)):=by
  intro i hi
  obtain⟨h1,h2,h3⟩:=qbF qaO e hl i hi
  have hn:=qwz hL hC.f265 hC.f264 hC.f266 hC.f258 hC.f259 hC.f234 hC.f235 hC.f194 hC.f193 e e[i] (hf e[i] (List.getElem_mem hi)) (fun k hkm=>by have:=hk i hi k hkm;omega)
  have c1:=qo1 hL hC.f191 e[i].op
  have c2:=qo4 hL hC.f192 e[i].op
  unfold qpc at hn
  unfold qdk
  have hop:(qhI e e[i]).op=e[i].op:=rfl
  rw[hop]
  generalize qhI e e[i]=lb at *
  generalize e[i]=x at *
  rw[qbB] at hn
  unfold qxl
  cases flat with
  | true =>
    cases hc:qjH x.op with
    | true =>
      rw[hc] at c1
      unfold qej
      simp -implicitDefEqProofs only[qam,qad,qae,qab,qai,qar,qac,qap,qah,aOp,opd,qak,qaW,qaB,qag,qaV,qba,qa8,qan,qaj,qax,qay,qbr,qbE,qaE,leaf,qau,qaR,gcE,qaX,qaf,qaF,qas,qaG,qa5,ren,renC,qbb,qbT,qb2,qcj,qbw,qaa,qaq,qaQ,qav,qat,qde,beq_self_eq_true,Option.map_some,List.map_cons,List.map_nil,List.flatMap_cons,List.flatMap_nil,List.length_cons,List.length_nil,List.cons_append,List.nil_append,List.append_nil,List.getElem?_cons_zero,List.getElem?_cons_succ,List.set_cons_zero,List.set_cons_succ,List.take_succ_cons,List.take_zero,List.drop_succ_cons,List.drop_zero,List.take_nil,List.drop_nil,List.all_cons,List.all_nil,↓reduceIte,Bool.and_true,Bool.false_and,Bool.or_false,Bool.not_true,Bool.false_eq_true,decide_true,decide_false,and_self,Nat.le_refl,Nat.add_zero,Nat.zero_add,Nat.reduceEqDiff,Nat.reduceAdd,Nat.reduceLeDiff,Int.reduceEq,Int.toNat_natCast,Int.natCast_nonneg,qaz,qa0,qa3,qbB,qaA,h1,h2,h3,c1,hdE,qaK L hp,hp]
    | false =>
      rw[hc] at c1
      by_cases hz:qqy lb=0
      ·rw[hz] at hn
       unfold qej
       simp -implicitDefEqProofs only[qam,qad,qae,qab,qai,qac,qap,qah,aOp,opd,qak,qaW,qaB,qag,qaV,qba,qa8,aUn,qan,qaj,qax,qay,qbr,qbE,qaE,leaf,qau,qaR,qaX,qaf,qaF,qas,qaG,qa5,ren,renC,qbb,qbT,qb2,qcj,qcf,qbw,qcT,qbk,qbz,qaa,qbR,qaq,qcc,qb5,qaQ,qav,qat,qbN,beq_self_eq_true,Option.map_some,List.map_cons,List.map_nil,List.flatMap_cons,List.flatMap_nil,List.length_cons,List.length_nil,List.cons_append,List.nil_append,List.append_nil,List.getElem?_cons_zero,List.getElem?_cons_succ,List.set_cons_zero,List.set_cons_succ,List.take_succ_cons,List.take_zero,List.drop_succ_cons,List.drop_zero,List.take_nil,List.drop_nil,List.all_cons,List.all_nil,↓reduceIte,Bool.and_true,Bool.and_false,Bool.false_and,Bool.or_false,Bool.not_true,Bool.false_eq_true,decide_true,decide_false,and_self,Nat.le_refl,Nat.add_zero,Nat.zero_add,Nat.reduceEqDiff,Nat.reduceAdd,Nat.reduceLeDiff,Int.toNat_natCast,Int.natCast_nonneg,qaz,qa0,qa3,qbB,qaA,qaP,h1,h2,h3,c1,hn,hz,hdE,qaK L hp,hp,bne]
      ·have hz':(qqy lb==0)=false:=by simpa using hz
       unfold qej
       simp -implicitDefEqProofs only[qam,qad,qae,qab,qai,qar,qac,qap,qah,aOp,opd,qak,qaW,qaB,qag,qaV,qba,qa8,aUn,qan,qaj,qax,qay,qbr,qbE,qaE,leaf,qau,qaR,gcE,qaX,qaf,qaF,qas,qaG,qa5,ren,renC,qbb,qbT,qb2,qcj,qcf,qbw,qcT,qbk,qbz,qaa,qaq,qcc,qb5,qaQ,qav,qat,qbN,beq_self_eq_true,Option.map_some,List.map_cons,List.map_nil,List.flatMap_cons,List.flatMap_nil,List.length_cons,List.length_nil,List.cons_append,List.nil_append,List.append_nil,List.getElem?_cons_zero,List.getElem?_cons_succ,List.set_cons_zero,List.set_cons_succ,List.take_succ_cons,List.take_zero,List.drop_succ_cons,List.drop_zero,List.take_nil,List.drop_nil,List.all_cons,List.all_nil,↓reduceIte,Bool.and_true,Bool.and_false,Bool.false_and,Bool.or_false,Bool.not_true,Bool.not_false,Bool.false_eq_true,decide_true,decide_false,and_self,Nat.le_refl,Nat.add_zero,Nat.zero_add,Nat.reduceEqDiff,Nat.reduceAdd,Nat.reduceLeDiff,Int.toNat_natCast,Int.natCast_nonneg,qaz,qa0,qa3,qbB,qaA,qaP,h1,h2,h3,c1,hn,hz,hz',hdE,qaK L hp,hp,bne]
  | false =>
    cases hc:qjJ x.op with
    | true =>
      rw[hc] at c2
      unfold qej
      simp -implicitDefEqProofs only[qam,qad,qae,qab,qai,qar,qac,qap,qah,aOp,opd,qak,qaW,qaB,qag,qaV,qba,qa8,aUn,qan,qaj,qax,qay,qbr,qbE,qaE,leaf,qau,qaR,gcE,qaX,qaf,qaF,qas,qaG,qa5,ren,renC,qbb,qbT,qb2,qcj,qbw,qaa,qaq,qaQ,qav,qat,qbN,beq_self_eq_true,Option.map_some,List.map_cons,List.map_nil,List.flatMap_cons,List.flatMap_nil,List.length_cons,List.length_nil,List.cons_append,List.nil_append,List.append_nil,List.getElem?_cons_zero,List.getElem?_cons_succ,List.set_cons_zero,List.set_cons_succ,List.take_succ_cons,List.take_zero,List.drop_succ_cons,List.drop_zero,List.take_nil,List.drop_nil,List.all_cons,List.all_nil,↓reduceIte,Bool.and_true,Bool.false_and,Bool.or_true,Bool.not_false,Bool.false_eq_true,decide_true,decide_false,and_self,Nat.le_refl,Nat.add_zero,Nat.zero_add,Nat.reduceEqDiff,Nat.reduceAdd,Nat.reduceLeDiff,Int.reduceEq,Int.toNat_natCast,Int.natCast_nonneg,qaz,qa0,qa3,qbB,qaA,h1,h2,h3,c2,hdE,qaK L hp,hp]
    | false =>
      rw[hc] at c2
      by_cases hz:qqy lb=0
      ·rw[hz] at hn
       unfold qej
       simp -implicitDefEqProofs only[qam,qad,qae,qab,qai,qac,qap,qah,aOp,opd,qak,qaW,qaB,qag,qaV,qba,qa8,aUn,qan,qaj,qax,qay,qbr,qbE,qaE,leaf,qau,qaR,qaX,qaf,qaF,qas,qaG,qa5,ren,renC,qbb,qbT,qb2,qcj,qcf,qbw,qcT,qbk,qbz,qaa,qbR,qaq,qcc,qb5,qaQ,qav,qat,qbN,beq_self_eq_true,Option.map_some,List.map_cons,List.map_nil,List.flatMap_cons,List.flatMap_nil,List.length_cons,List.length_nil,List.cons_append,List.nil_append,List.append_nil,List.getElem?_cons_zero,List.getElem?_cons_succ,List.set_cons_zero,List.set_cons_succ,List.take_succ_cons,List.take_zero,List.drop_succ_cons,List.drop_zero,List.take_nil,List.drop_nil,List.all_cons,List.all_nil,↓reduceIte,Bool.and_true,Bool.and_false,Bool.false_and,Bool.or_false,Bool.not_true,Bool.not_false,Bool.false_eq_true,decide_true,decide_false,and_self,Nat.le_refl,Nat.add_zero,Nat.zero_add,Nat.reduceEqDiff,Nat.reduceAdd,Nat.reduceLeDiff,Int.toNat_natCast,Int.natCast_nonneg,qaz,qa0,qa3,qbB,qaA,qaP,h1,h2,h3,c2,hn,hz,hdE,qaK L hp,hp,bne]
      ·have hz':(qqy lb==0)=false:=by simpa using hz
       unfold qej
       simp -implicitDefEqProofs only[qam,qad,qae,qab,qai,qar,qac,qap,qah,aOp,opd,qak,qaW,qaB,qag,qaV,qba,qa8,aUn,qan,qaj,qax,qay,qbr,qbE,qaE,leaf,qau,qaR,gcE,qaX,qaf,qaF,qas,qaG,qa5,ren,renC,qbb,qbT,qb2,qcj,qcf,qbw,qcT,qbk,qbz,qaa,qaq,qcc,qb5,qaQ,qav,qat,qbN,beq_self_eq_true,Option.map_some,List.map_cons,List.map_nil,List.flatMap_cons,List.flatMap_nil,List.length_cons,List.length_nil,List.cons_append,List.nil_append,List.append_nil,List.getElem?_cons_zero,List.getElem?_cons_succ,List.set_cons_zero,List.set_cons_succ,List.take_succ_cons,List.take_zero,List.drop_succ_cons,List.drop_zero,List.take_nil,List.drop_nil,List.all_cons,List.all_nil,↓reduceIte,Bool.and_true,Bool.and_false,Bool.false_and,Bool.or_false,Bool.not_false,Bool.false_eq_true,decide_true,decide_false,and_self,Nat.le_refl,Nat.add_zero,Nat.zero_add,Nat.reduceEqDiff,Nat.reduceAdd,Nat.reduceLeDiff,Int.toNat_natCast,Int.natCast_nonneg,qaz,qa0,qa3,qbB,qaA,qaP,h1,h2,h3,c2,hn,hz,hz',hdE,qaK L hp,hp,bne]
 refine qr6 e (fun x=>qdk flat (qhI e x)) (fun i=>⟨kt [1,2,3,18,19,20] [.list (ps.map qa4) none,.bool flat,.vptr [.list (e.map qaO) none] 0,.list (e.map qaO) none,.int .i64 e.length,.int .i64 i],[.gone]⟩) _
  (fun r=>⟨kt [1,3,6] [.list (ps.map qa4) none,.vptr [.list (e.map qaO) none] 0,.int .i64 r],[.gone]⟩) ?_ ?_ ?_
 ·intro i hi hz
  rw[hround i hi,if_pos hz]
 ·intro i hi hz
  rw[hround i hi,if_neg hz]
 ·have h0:=qbG e.length
  unfold qej
  simp -implicitDefEqProofs only[qad,qae,qab,qbj,qac,qah,aOp,opd,qak,qaB,qag,qba,qa8,qaj,gcE,qaX,qaf,qaF,qas,qaG,qa5,ren,renC,qbb,qbT,qb2,qcj,qaa,qaQ,qbS,qav,qat,List.map_cons,List.map_nil,List.flatMap_cons,List.flatMap_nil,List.length_cons,List.length_nil,List.append_nil,List.take_succ_cons,List.take_nil,↓reduceIte,Bool.and_true,Bool.false_eq_true,decide_false,Nat.le_refl,Nat.zero_add,Nat.reduceEqDiff,qaz,qa0,qaA,h0,hdE]
theorem quP (ps fs:List Int) (hps:ps.length<2 ^ 30) (hfs:fs.length<2 ^ 30) :
  qb7 L.pure (call L) 1 [1,51,52,53] [6] 2 qh5 ⟨kt [1,51,52,53] [.list (ps.map qa4) none,.list (fs.map qa4) none,.int .i64 fs.length,.int .i64 ((0:Nat):Int)],[.gone]⟩ =
  some (if (fs.any fun n => !qoI ps n)=true then (.ret,⟨kt [6] [.int .i64 6],[.gone]⟩) else (.normal,⟨kt [6] [.junk],[.gone]⟩)):=by
 have hL:=hC.plain
 have hp:=hL.pure
 refine qft fs (fun n => !qoI ps n) (fun i=>⟨kt [1,51,52,53] [.list (ps.map qa4) none,.list (fs.map qa4) none,.int .i64 fs.length,.int .i64 i],[.gone]⟩) _ _ ?_ ?_ ?_
 ·intro i hi hq
  obtain⟨h1,h2,h3⟩:=qbF qa4 fs hfs i hi
  have hc:=qkh hL hC.f181 hC.f151 ps hps fs[i]
  have hq:qoI ps fs[i]=true:=by simpa using hq
  rw[hq] at hc
  generalize fs[i]=a at *
  unfold qh5
  simp -implicitDefEqProofs only[qam,qad,qae,qab,qai,qac,qah,aOp,opd,qak,qaB,qag,qba,qa8,aUn,qan,qaj,qay,qaJ,qaX,qaf,qaF,qas,qaG,qa5,ren,renC,qbb,qbT,qb2,qcj,qbx,qbw,qaa,qaq,qav,qat,List.map_cons,List.map_nil,List.flatMap_cons,List.flatMap_nil,List.length_cons,List.length_nil,List.append_nil,List.getElem?_cons_zero,List.take_succ_cons,List.take_nil,↓reduceIte,Bool.and_true,Bool.not_true,Bool.false_eq_true,decide_true,decide_false,and_self,Nat.le_refl,Nat.zero_add,Nat.reduceEqDiff,Int.toNat_natCast,Int.natCast_nonneg,qaz,qa0,qa3,qbM,qaA,h1,h2,h3,hc,qaK L hp,hp]
 ·intro i hi hq
  obtain⟨h1,h2,h3⟩:=qbF qa4 fs hfs i hi
  have hc:=qkh hL hC.f181 hC.f151 ps hps fs[i]
  have hq:qoI ps fs[i]=false:=by simpa using hq
  rw[hq] at hc
  generalize fs[i]=a at *
  unfold qh5
  simp -implicitDefEqProofs only[qam,qad,qae,qab,qai,qar,qac,qah,aOp,opd,qak,qaB,qag,qba,qa8,aUn,qan,qaj,qay,qaJ,gcE,qaX,qaf,qaF,qas,qaG,qa5,ren,renC,qbb,qbT,qb2,qcj,qbx,qbw,qaa,qaq,qav,qat,List.map_cons,List.map_nil,List.flatMap_cons,List.flatMap_nil,List.length_cons,List.length_nil,List.append_nil,List.getElem?_cons_zero,List.take_succ_cons,List.take_nil,↓reduceIte,Bool.and_true,Bool.not_false,Bool.false_eq_true,decide_true,decide_false,and_self,Nat.le_refl,Nat.zero_add,Nat.reduceEqDiff,Int.toNat_natCast,Int.natCast_nonneg,qaz,qa0,qa3,qbM,qaA,h1,h2,h3,hc,qaK L hp,hp]
 ·have h0:=qbG fs.length
  unfold qh5
  simp -implicitDefEqProofs only[qad,qae,qab,qbj,qac,qah,aOp,opd,qak,qaB,qag,qba,qa8,qaj,gcE,qaX,qaf,qaF,qas,qaG,qa5,ren,renC,qbb,qbT,qb2,qcj,qbS,List.map_cons,List.map_nil,List.flatMap_cons,List.flatMap_nil,List.length_cons,List.length_nil,List.append_nil,List.take_succ_cons,List.take_nil,↓reduceIte,Bool.false_eq_true,decide_false,Nat.le_refl,Nat.zero_add,Nat.reduceEqDiff,qaz,qa0,h0]
theorem quQ (e:List CExpr) (hl:e.length<2 ^ 30) (hf:∀ x∈e,NodeFit x) (ps:List Int) (hps:ps.length<2 ^ 30) (flat:Bool) (h:Heap) :
  pcall L 165 [.list (e.map qaO) none,.list (ps.map qa4) none,.bool flat] h=some (.val (.int .i64 (qmn e ps flat)),h):=by
 have hL:=hC.plain
 have hp:=hL.pure
 have hdE:=qbu e
 refine qbL hL hC.f165 rfl ?_ h
 have htree:=qwR hL hC.f190 e hf hl
 unfold qmn
 by_cases ht:qf6 e=0
 ·have htz:=(qjy e).1 ht
  obtain⟨hT,hn,hg⟩:=htz
  have hne:e≠[]:=fun h=>by have:=hT.pos;rw[h] at this;simp at this
  have hl0:=quO hC e hl hf hT.ahead ps flat
  simp only[Int.natCast_zero] at hl0
  rw[if_neg (fun h=>h ht)]
  rw[ht] at htree
  by_cases hz:qcG (e.map fun x=>qdk flat (qhI e x))=0
  ·rw[if_pos hz] at hl0
   rw[if_neg (fun h=>h hz)]
   have hall:=(qfQ _ e).1 hz
   have herr:∀ x∈e,qqy (qhI e x)=0:=by
    intro x hx
    have:=hall x hx
    unfold qdk at this
    split at this
    ·cases this
    ·exact this
   have hb:∀ x∈e,qs6 x:=by
    intro x hx
    have:=qpN (herr x hx) (by unfold qhI;rw[List.length_map];have:=qo6 e hT x hx;omega)
    unfold qs6
    unfold qhI at this
    dsimp only at this
    omega
   have htw:=qus hL hC.f232 hC.f195 e hl hf hb ps hps
   cases hw:qi6 e ps with
   | true =>
     rw[hw] at htw
     rw[if_pos rfl]
     unfold fn165
     simp -implicitDefEqProofs only[qam,qad,qae,qab,qar,qac,qah,aOp,opd,qak,qal,qaB,qag,qba,qcb,qa8,qaj,qay,leaf,qbn,qaS,qao,qaw,qaI,qaU,qaX,qaf,qaF,qas,qaG,qa5,ren,renC,qbb,qbT,qb2,qcj,qbx,qbf,qbk,qaa,qbR,qaq,qaQ,qav,qat,beq_self_eq_true,Option.getD_some,List.map_cons,List.map_nil,List.flatMap_cons,List.flatMap_nil,List.length_cons,List.length_nil,List.length_map,List.nil_append,List.append_nil,List.getElem?_cons_zero,List.getElem?_cons_succ,List.set_cons_zero,List.take_succ_cons,List.take_nil,List.all_cons,List.all_nil,↓reduceIte,Bool.and_true,Bool.not_true,Bool.false_eq_true,false_and,decide_false,and_self,Nat.le_refl,reduceCtorEq,Nat.zero_add,Nat.reduceEqDiff,Nat.reduceLT,qch,qco,qcM,qds,frz,frzC,qla,qa3,qaD,qaA,htree,hl0,htw,hdE,qaK L hp,hp,bne]
   | false =>
     rw[hw] at htw
     rw[if_neg (by decide)]
     have hgrow:=fun h=>hC.grow e h hl hf hT hg
     have hfit:TFit (qdY e):=qpp e hT.ahead hf hb _ (by have:=hT.pos;omega)
     have hsz:=qi5 e hT
     have hfl:=qpP (qdY e) ([],[])
     rw[List.length_nil,Nat.zero_add,hsz] at hfl
     have hfree:=qrM hL hC.prims hC.f236 hC.f196 hC.f167 (qdY e) hfit (by omega) (by omega)
     have hfo:(qif (qdY e)).length<2 ^ 30:=by
      unfold qif qfs
      rw[qfc,List.length_map]
      omega
     have hl1:=quP hC ps (qif (qdY e)) hps hfo
     simp only[Int.natCast_zero] at hl1
     generalize qif (qdY e)=fs at *
     obtain⟨tc,htc,hdt⟩:=qdT (qdY e)
     rw[htc] at hgrow hfree
     cases hx:fs.any fun n => !qoI ps n with
     | true =>
       simp only[hx,if_true] at hl1
       rw[if_pos rfl]
       unfold fn165
       simp -implicitDefEqProofs only[qam,qad,qae,qab,qac,qah,aOp,opd,qak,qal,qaB,qag,qba,qcb,qa8,qaj,qay,leaf,qbn,qaS,qao,qaw,qaI,qaU,qaX,qaf,qaF,qas,qaG,qa5,ren,renC,qbb,qbT,qb2,qcj,qbx,qbf,qbv,qbk,qaa,qbR,qaq,qaQ,qav,qat,beq_self_eq_true,Option.getD_some,List.map_cons,List.map_nil,List.flatMap_cons,List.flatMap_nil,List.length_cons,List.length_nil,List.length_map,List.nil_append,List.append_nil,List.getElem?_cons_zero,List.getElem?_cons_succ,List.set_cons_zero,List.take_succ_cons,List.take_nil,List.all_cons,List.all_nil,↓reduceIte,Bool.and_true,Bool.not_true,Bool.false_eq_true,false_and,decide_false,and_self,Nat.le_refl,reduceCtorEq,Nat.zero_add,Nat.reduceEqDiff,Nat.reduceLT,qa0,qch,qco,qcM,qds,frz,frzC,qla,qa3,qaD,qaA,htree,hl0,htw,hgrow,hfree,hl1,hdE,hdt,qbv,qaK L hp,hp,bne]
     | false =>
       simp only[hx,Bool.false_eq_true,if_false] at hl1
       rw[if_neg (by decide)]
       unfold fn165
       simp -implicitDefEqProofs only[qam,qad,qae,qab,qar,qac,qah,aOp,opd,qak,qal,qaB,qag,qba,qcb,qa8,qaj,qay,leaf,qbn,qaS,qao,qaw,qaI,qaU,qaX,qaf,qaF,qas,qaG,qa5,ren,renC,qbb,qbT,qb2,qcj,qbx,qbf,qbv,qbk,qaa,qbR,qaq,qaQ,qav,qat,beq_self_eq_true,Option.getD_some,List.map_cons,List.map_nil,List.flatMap_cons,List.flatMap_nil,List.length_cons,List.length_nil,List.length_map,List.nil_append,List.append_nil,List.getElem?_cons_zero,List.getElem?_cons_succ,List.set_cons_zero,List.take_succ_cons,List.take_nil,List.all_cons,List.all_nil,↓reduceIte,Bool.and_true,Bool.not_true,Bool.false_eq_true,false_and,decide_false,and_self,Nat.le_refl,reduceCtorEq,Nat.zero_add,Nat.reduceEqDiff,Nat.reduceLT,qa0,qch,qco,qcM,qds,frz,frzC,qla,qa3,qaD,qaA,htree,hl0,htw,hgrow,hfree,hl1,hdE,hdt,qbv,qaK L hp,hp,bne]
  ·rw[if_neg hz] at hl0
   rw[if_pos hz]
   generalize qcG (e.map fun x=>qdk flat (qhI e x))=r at *
   unfold fn165
   simp -implicitDefEqProofs only[qam,qad,qae,qab,qac,qah,aOp,opd,qak,qal,qaB,qag,qba,qcb,qa8,qaj,qay,leaf,qbn,qaS,qao,qaw,qaI,qaU,qaX,qaf,qaF,qas,qaG,qa5,ren,renC,qbb,qbT,qb2,qcj,qbx,qbf,qbk,qaa,qbR,qaq,qaQ,qav,qat,beq_self_eq_true,Option.getD_some,List.map_cons,List.map_nil,List.flatMap_cons,List.flatMap_nil,List.length_cons,List.length_nil,List.length_map,List.nil_append,List.append_nil,List.getElem?_cons_zero,List.getElem?_cons_succ,List.set_cons_zero,List.take_succ_cons,List.take_nil,List.all_cons,List.all_nil,↓reduceIte,Bool.and_true,Bool.not_true,Bool.false_eq_true,false_and,decide_false,and_self,Nat.le_refl,reduceCtorEq,Nat.zero_add,Nat.reduceEqDiff,Nat.reduceLT,qch,qco,qcM,qds,frz,frzC,qla,qa3,qaD,qaA,htree,hl0,hdE,qaK L hp,hp,bne]
 ·have hz':(qf6 e==0)=false:=by simpa using ht
  rw[if_pos ht]
  unfold fn165
  simp -implicitDefEqProofs only[qad,qae,qab,qar,qac,qah,aOp,opd,qak,qal,qag,qba,qa8,qaj,qay,qbn,qaS,qao,qaw,qaI,qbx,qbf,qaa,qav,qat,Option.getD_some,List.map_cons,List.map_nil,List.length_nil,List.nil_append,List.getElem?_cons_zero,↓reduceIte,Bool.and_true,Bool.not_false,Bool.false_eq_true,and_self,Nat.reduceEqDiff,qa3,qaD,htree,hz',hdE,qaK L hp,hp,bne]
def qb6 (e:List CExpr):Int:=qmn e [] false
theorem qmr (e:List CExpr) (hl:e.length<2 ^ 30) (hf:∀ x∈e,NodeFit x) (h:Heap):pcall L 134 [.list (e.map qaO) none] h=some (.val (.int .i64 (qb6 e)),h):=by
 have hL:=hC.plain
 have hp:=hL.pure
 have hdE:=qbu e
 refine qbL hL hC.f134 rfl ?_ h
 have hb:=quQ hC e hl hf [] (by simp) false
 unfold qb6 fn134
 simp -implicitDefEqProofs only[qad,qae,qar,qac,qah,aOp,opd,qak,qal,qaS,qao,qaw,qaI,qbx,qs1,qaa,qbR,qav,qat,Option.getD_some,List.map_cons,List.map_nil,List.getElem?_cons_zero,↓reduceIte,Bool.and_true,and_self,reduceCtorEq,qa3,hdE,qaK L hp,hp]
 simp only[List.map_nil] at hb
 simp -implicitDefEqProofs only[qak,qbf,↓reduceIte,qaD,hb]
end
end Go.Abs
set_option linter.unusedVariables false
set_option linter.unusedSimpArgs false
set_option maxRecDepth 100000
set_option maxHeartbeats 4000000
namespace Go.Abs
theorem qf7:∀ (a b:List CTree),qa9 (a++b)=qa9 a+qa9 b
 | [],b=>by rw[List.nil_append,qa9];omega
 | x::a,b=>by rw[List.cons_append,qa9,qa9,qf7 a b];omega
theorem qhK:∀ (ks:List CTree) (k:CTree) (b:Nat),qbs (ks++[k]) b=qbs ks b++qdu k (b+qa9 ks)
 | [],k,b=>by rw[List.nil_append,qbs,qbs,qbs,qa9,List.append_nil];rfl
 | x :: ks,k,b => by
   rw[List.cons_append,qbs,qbs,qhK ks k,qa9,List.append_assoc,Nat.add_assoc]
theorem qgI:∀ (ks:List CTree) (k:CTree) (b:Nat),qbt (ks++[k]) b=qbt ks b++[((b+qa9 ks+qbA k-1:Nat):Int)]
 | [],k,b=>by rw[List.nil_append,qbt,qbt,qbt,qa9];rfl
 | x :: ks,k,b => by
   rw[List.cons_append,qbt,qbt,qgI ks k,qa9]
   rw[show b+qbA x+qa9 ks+qbA k-1=b+(qbA x+qa9 ks)+qbA k-1 by omega]
   rfl
theorem qe3:∀ (ks:List CTree) (b:Nat),(qbt ks b).length=ks.length
 | [],b=>rfl
 | k::ks,b=>by rw[qbt,List.length_cons,qe3 ks];rfl
theorem qk3 (ks:List CTree) (j:Nat) (hj:j<ks.length):qa9 (ks.take (j+1))=qa9 (ks.take j)+qbA ks[j]:=by
 rw[List.take_succ_eq_append_getElem hj,qf7,qa9,qa9]
 omega
theorem qgO (ks:List CTree) (j:Nat):qa9 (ks.take j)≤qa9 ks:=by
 conv=>rhs;rw[← List.take_append_drop j ks,qf7]
 omega
section
variable {L:Lib} (hL:Plain L)
include hL
def hB (op n:Int) (binds:List Int) (outs:List CExpr) (ids:List Int) (j:Nat):Heap :=
 if j=0 then [.box [.func 187 [] [.ptr (some (0,0)),.ptr (some (1,0))]],.box [.list [] (some none)],.box [.int .i64 op,.int .i64 n,.list (binds.map qa4) none,.list [] (some none),.list [] (some none)]]
 else [.box [.func 187 [] [.ptr (some (0,0)),.ptr (some (1,0))]],.box [.list (outs.map qaO) (some (some 3))],.box [.int .i64 op,.int .i64 n,.list (binds.map qa4) none,.list (ids.map qa4) (some (some 4)),.list [] (some none)],.tail outs.length 5,.tail j 1]
end
end Go.Abs
