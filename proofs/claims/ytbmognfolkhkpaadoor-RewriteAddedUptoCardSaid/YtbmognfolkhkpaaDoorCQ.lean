/-
  PARTS OF A PROOF, joined: an abstract machine for quiet code, its evaluation, and what the seat's functions answer on it. Conditions: none.
-/
import Derived.Test.YtbmognfolkhkpaaDoorN
import Derived.Test.YtbmognfolkhkpaaDoorC
set_option linter.unusedVariables false
set_option linter.unusedSimpArgs false
set_option maxRecDepth 100000
set_option maxHeartbeats 4000000
namespace Go.Abs
theorem qkI:∀ (as:List CAlt) (b:Int),b≤qcn b as∧∀ a∈as,(a.binds.length:Int)≤qcn b as
 | [],b=>⟨Int.le_refl _,by simp⟩
 | a :: as,b => by
   obtain⟨h1,h2⟩:=qkI as (max b (a.binds.length:Int))
   have e:qcn b (a::as)=qcn (max b (a.binds.length:Int)) as:=rfl
   rw[e]
   refine⟨by omega,fun x hx=>?_⟩
   rcases List.mem_cons.1 hx with rfl | hx
   ·omega
   ·exact h2 x hx
theorem qiO {op n:Int} {binds:List Int} {kl:Nat} {as:List CAlt} (h:qdJ op n binds kl as=0):qcn binds.length as≤16:=by
 unfold qdJ at h
 split at h
 ·cases h
 ·split at h
  ·cases h
  ·split at h
   ·cases h
   ·split at h
    ·cases h
    ·rename_i ht
     unfold qlm at ht
     simp only[Bool.or_eq_true,decide_eq_true_eq,not_or] at ht
     have:=ht.1.1.1
     split at this<;>omega
theorem qru {op n:Int} {bl kl:Nat} {as:List CAlt} (h:qcc op n bl kl as=true):as.length=0∨kl=as.length+1:=by
 unfold qcc at h
 split at h
 ·simp only[Bool.and_eq_true] at h
  have:=h.1.1
  unfold qko at this
  simp only[Bool.and_eq_true,beq_iff_eq] at this
  right
  omega
 ·split at h
  ·cases h
  ·unfold qcV at h
   simp only[Bool.and_eq_true,beq_iff_eq] at h
   left
   omega
theorem qq6 (as:List CAlt) (h:∀ a∈as,a.binds.length≤16):(as.flatMap (·.binds)).length≤16*as.length:=by
 induction as with
 | nil=>simp
 | cons a as ih =>
   rw[List.flatMap_cons,List.length_append,List.length_cons]
   have:=h a (by simp)
   have:=ih fun x hx=>h x (by simp[hx])
   omega
theorem qqe {l:Lab} (h:qq5 l=0) (hk:l.kops.length≤4096):(l.binds++l.alts.flatMap (·.binds)).length≤16+16*4096:=by
 unfold qq5 at h
 split at h
 ·cases h
 ·rename_i hs
  have hs:qcc l.op l.n l.binds.length l.kops.length l.alts=true:=by simpa using hs
  split at h
  ·rename_i hr;exact absurd h hr
  ·rename_i hr
   have hr:qdJ l.op l.n l.binds l.kops.length l.alts=0:=Classical.not_not.1 hr
   have hf:=qiO hr
   obtain⟨h1,h2⟩:=qkI l.alts (l.binds.length:Int)
   have h3:=qq6 l.alts fun a ha=>by have:=h2 a ha;omega
   rw[List.length_append]
   rcases qru hs with h4 | h4<;>omega
theorem qrd (e:List CExpr) (h:TreeL e):(e.flatMap (·.kids)).length+1=e.length:=by
 have h1:=(qfk e h).length_eq
 rw[List.length_range,List.length_cons] at h1
 have h2:((List.range e.length).flatMap (qcq e)).length=(e.flatMap (·.kids)).length:=by
  have h3:e=(List.range e.length).map fun i=>(e[i]?).getD ⟨0,0,[],[],[]⟩:=by
   refine List.ext_getElem (by simp) fun i h1 h2=>?_
   simp[h1]
  conv=>rhs;rw[h3,List.flatMap_map]
  rw[List.length_flatMap,List.length_flatMap]
  congr 1
  refine List.map_congr_left fun i hi=>?_
  have hi:=List.mem_range.1 hi
  unfold qcq
  simp[hi]
 omega
theorem qsD (e:List CExpr) (h:TreeL e) (x:CExpr) (hx:x∈e):x.kids.length≤e.length:=by
 have h1:=qrd e h
 obtain⟨s,t,rfl⟩:=List.append_of_mem hx
 rw[List.flatMap_append,List.flatMap_cons,List.length_append,List.length_append] at h1
 omega
theorem qu7 {β:Type} (v:Int) (b:β) (m:IM β):(qo4 v b m).length≤m.length+1:=by
 have hins:∀ m:IM β,(qmT v b m).length=m.length+1:=by
  intro m
  induction m with
  | nil=>rfl
  | cons p m ih=>unfold qmT;split<;>simp[ih]
 unfold qo4
 split
 ·unfold qoA;simp
 ·rw[hins];omega
mutual
theorem qqg:∀ (t:CTree) (s:FS),(qeQ t s).2.length≤s.2.length+qbv t
 | .mk op n binds kids alts,s => by
   rw[qeQ,qbv]
   have:=qnN op binds alts kids 0 (qd8 op n s)
   have h2:(qd8 op n s).2.length≤s.2.length+1:=by
    unfold qd8
    split
    ·exact qu7 _ _ _
    ·omega
   omega
theorem qnN (op:Int) (binds:List Int) (alts:List CAlt):∀ (ks:List CTree) (k:Nat) (s:FS),(qeK op binds alts ks k s).2.length≤s.2.length+qa6 ks
 | [],k,s=>by rw[qeK];omega
 | kid :: ks,k,s => by
   rw[qeK,qa6]
   have h1:=qnN op binds alts ks (k+1) ((qcM op binds alts k).foldl (qhH (-1)) (qeQ kid ((qcM op binds alts k).foldl (qhH 1) s.1,s.2)).1,(qeQ kid ((qcM op binds alts k).foldl (qhH 1) s.1,s.2)).2)
   have h2:=qqg kid ((qcM op binds alts k).foldl (qhH 1) s.1,s.2)
   dsimp only at h1 h2
   omega
end
theorem qpM (e:List CExpr) (hk:qfn e) (hf:∀ x∈e,NodeFit x) (hb:∀ x∈e,qqL x):∀ i,i<e.length→TFit (qcw e i):=by
 intro i
 induction i using Nat.strongRecOn with
 | ind i ih =>
   intro hi
   rw[qdK e hk i hi]
   have hx:=hf e[i] (List.getElem_mem hi)
   refine .mk _ _ _ _ _ (hb e[i] (List.getElem_mem hi)) (by rw[List.length_map];exact hx.kids) hx.alts ?_
   intro k hkm
   obtain⟨q,hq,rfl⟩:=List.mem_map.1 hkm
   obtain⟨q0,q1⟩:=hk i hi q hq
   exact ih q.toNat (by omega) (by omega)
def qyj (flat:Bool) (op:Int):Bool:=(flat && qjU op) || (!flat && qjW op)
def qdm (flat:Bool) (l:Lab):Int:=if qyj flat l.op=true then 3 else qq5 l
def qkr (e:List CExpr) (ps:List Int) (flat:Bool):Int :=
 if qgj e≠0 then qgj e
 else if qcR (e.map fun x=>qdm flat (qgI e x))≠0 then qcR (e.map fun x=>qdm flat (qgI e x))
 else if qjn e ps=true then 7
 else if ((qgl (qb2 e)).any fun n => !qrC ps n)=true then 6 else 0
theorem qeO {α:Type} (g:α→Int):∀ (l:List α),qcR (l.map g)=0↔∀ x∈l,g x=0
 | []=>by simp[qcR]
 | x :: l => by
   rw[List.map_cons,qcR]
   by_cases h:g x=0
   ·rw[if_pos h,qeO g l]
    simp[h]
   ·rw[if_neg h]
    simp[h]
structure CLib (L:Lib):Prop where
 plain:Plain L
 prims:CPrims L qb0
 f134:L.fns 134=some fn134
 f151:L.fns 151=some fn151
 grow:∀ (e:List CExpr) (h:Heap),e.length<2 ^ 30→(∀ x∈e,NodeFit x)→TreeL e→hgt (qb2 e)≤400→pcall L 160 [.list (e.map qaP) none] h=some (.val (qaW (qb2 e)),h)
 f165:L.fns 165=some fn165
 f167:L.fns 167=some fn167
 f181:L.fns 181=some fn181
 f190:L.fns 190=some fn190
 f191:L.fns 191=some fn191
 f192:L.fns 192=some fn192
 f193:L.fns 193=some fn193
 f194:L.fns 194=some fn194
 f195:L.fns 195=some fn195
 f196:L.fns 196=some fn196
 f232:L.fns 232=some fn232
 f234:L.fns 234=some fn234
 f235:L.fns 235=some fn235
 f236:L.fns 236=some fn236
 f258:L.fns 258=some fn258
 f259:L.fns 259=some fn259
 f264:L.fns 264=some fn264
 f265:L.fns 265=some fn265
 f266:L.fns 266=some fn266
section
variable {L:Lib} (hC:CLib L)
include hC
theorem qvK (e:List CExpr) (hl:e.length<2 ^ 30) (hf:∀ x∈e,NodeFit x) (hk:qfn e) (ps:List Int) (flat:Bool) :
  qb7 L.pure (call L) 1 [1,2,3,18,19,20] [1,3,6] 0 qeu ⟨kt [1,2,3,18,19,20] [.list (ps.map qaY) none,.bool flat,.vptr [.list (e.map qaP) none] 0,.list (e.map qaP) none,.int .i64 e.length,.int .i64 ((0:Nat):Int)],[.gone]⟩ =
  some (if qcR (e.map fun x=>qdm flat (qgI e x))=0 then (.normal,⟨kt [1,3,6] [.list (ps.map qaY) none,.vptr [.list (e.map qaP) none] 0,.junk],[.gone]⟩)
   else (.ret,⟨kt [1,3,6] [.list (ps.map qaY) none,.vptr [.list (e.map qaP) none] 0,.int .i64 (qcR (e.map fun x=>qdm flat (qgI e x)))],[.gone]⟩)):=by
 have hL:=hC.plain
 have hp:=hL.pure
 have hdE:=qbg e
 have hround:∀ (i:Nat) (hi:i<e.length),qb6 L.pure (call L) 1 [1,2,3,18,19,20] [1,3,6] qeu ⟨kt [1,2,3,18,19,20] [.list (ps.map qaY) none,.bool flat,.vptr [.list (e.map qaP) none] 0,.list (e.map qaP) none,.int .i64 e.length,.int .i64 i],[.gone]⟩ =
   some (if qdm flat (qgI e e[i])=0 then (.normal,⟨kt [1,2,3,18,19,20] [.list (ps.map qaY) none,.bool flat,.vptr [.list (e.map qaP) none] 0,.list (e.map qaP) none,.int .i64 e.length,.int .i64 ((i+1:Nat):Int)],[.gone]⟩)
    else (.ret,⟨kt [1,3,6] [.list (ps.map qaY) none,.vptr [.list (e.map qaP) none] 0,.int .i64 (qdm flat (qgI e e[i]))],[.gone]⟩)):=by
  intro i hi
  obtain⟨h1,h2,h3⟩:=qbz qaP e hl i hi
  have hn:=qxv hL hC.f265 hC.f264 hC.f266 hC.f258 hC.f259 hC.f234 hC.f235 hC.f194 hC.f193 e e[i] (hf e[i] (List.getElem_mem hi)) (fun k hkm=>by have:=hk i hi k hkm;omega)
  have c1:=qpo hL hC.f191 e[i].op
  have c2:=qpr hL hC.f192 e[i].op
  unfold qpy at hn
  unfold qdm
  have hop:(qgI e e[i]).op=e[i].op:=rfl
  rw[hop]
  generalize qgI e e[i]=lb at *
  generalize e[i]=x at *
  rw[qbF] at hn
  unfold qyj
  cases flat with
  | true =>
    cases hc:qjU x.op with
    | true =>
      rw[hc] at c1
      unfold qeu
      simp -implicitDefEqProofs only[qam,qad,qae,qab,qal,qap,qac,qau,qah,aOp,opd,qai,qa3,qaB,qag,qaZ,qbb,qba,qas,qaj,qaw,qaA,qby,qbC,qaG,leaf,qar,qaV,gcE,qa0,qaf,qaE,qat,qaF,qa5,ren,renC,qbm,qbU,qcd,qco,qbx,qaa,qaq,qaQ,qav,qao,qc4,beq_self_eq_true,Option.map_some,List.map_cons,List.map_nil,List.flatMap_cons,List.flatMap_nil,List.length_cons,List.length_nil,List.cons_append,List.nil_append,List.append_nil,List.getElem?_cons_zero,List.getElem?_cons_succ,List.set_cons_zero,List.set_cons_succ,List.take_succ_cons,List.take_zero,List.drop_succ_cons,List.drop_zero,List.take_nil,List.drop_nil,List.all_cons,List.all_nil,↓reduceIte,Bool.and_true,Bool.false_and,Bool.or_false,Bool.not_true,Bool.false_eq_true,decide_true,decide_false,and_self,Nat.le_refl,Nat.add_zero,Nat.zero_add,Nat.reduceEqDiff,Nat.reduceAdd,Nat.reduceLeDiff,Int.reduceEq,Int.toNat_natCast,Int.natCast_nonneg,qaz,qa1,qa7,qbF,qay,h1,h2,h3,c1,hdE,qaN L hp,hp]
    | false =>
      rw[hc] at c1
      by_cases hz:qq5 lb=0
      ·rw[hz] at hn
       unfold qeu
       simp -implicitDefEqProofs only[qam,qad,qae,qab,qal,qac,qau,qah,aOp,opd,qai,qa3,qaB,qag,qaZ,qbb,qba,aUn,qas,qaj,qaw,qaA,qby,qbC,qaG,leaf,qar,qaV,qa0,qaf,qaE,qat,qaF,qa5,ren,renC,qbm,qbU,qcd,qco,qck,qbx,qcG,qbh,qbq,qaa,qbJ,qaq,qch,qbP,qaQ,qav,qao,qb9,beq_self_eq_true,Option.map_some,List.map_cons,List.map_nil,List.flatMap_cons,List.flatMap_nil,List.length_cons,List.length_nil,List.cons_append,List.nil_append,List.append_nil,List.getElem?_cons_zero,List.getElem?_cons_succ,List.set_cons_zero,List.set_cons_succ,List.take_succ_cons,List.take_zero,List.drop_succ_cons,List.drop_zero,List.take_nil,List.drop_nil,List.all_cons,List.all_nil,↓reduceIte,Bool.and_true,Bool.and_false,Bool.false_and,Bool.or_false,Bool.not_true,Bool.false_eq_true,decide_true,decide_false,and_self,Nat.le_refl,Nat.add_zero,Nat.zero_add,Nat.reduceEqDiff,Nat.reduceAdd,Nat.reduceLeDiff,Int.toNat_natCast,Int.natCast_nonneg,qaz,qa1,qa7,qbF,qay,qaO,h1,h2,h3,c1,hn,hz,hdE,qaN L hp,hp,bne]
      ·have hz':(qq5 lb==0)=false:=by simpa using hz
       unfold qeu
       simp -implicitDefEqProofs only[qam,qad,qae,qab,qal,qap,qac,qau,qah,aOp,opd,qai,qa3,qaB,qag,qaZ,qbb,qba,aUn,qas,qaj,qaw,qaA,qby,qbC,qaG,leaf,qar,qaV,gcE,qa0,qaf,qaE,qat,qaF,qa5,ren,renC,qbm,qbU,qcd,qco,qck,qbx,qcG,qbh,qbq,qaa,qaq,qch,qbP,qaQ,qav,qao,qb9,beq_self_eq_true,Option.map_some,List.map_cons,List.map_nil,List.flatMap_cons,List.flatMap_nil,List.length_cons,List.length_nil,List.cons_append,List.nil_append,List.append_nil,List.getElem?_cons_zero,List.getElem?_cons_succ,List.set_cons_zero,List.set_cons_succ,List.take_succ_cons,List.take_zero,List.drop_succ_cons,List.drop_zero,List.take_nil,List.drop_nil,List.all_cons,List.all_nil,↓reduceIte,Bool.and_true,Bool.and_false,Bool.false_and,Bool.or_false,Bool.not_true,Bool.not_false,Bool.false_eq_true,decide_true,decide_false,and_self,Nat.le_refl,Nat.add_zero,Nat.zero_add,Nat.reduceEqDiff,Nat.reduceAdd,Nat.reduceLeDiff,Int.toNat_natCast,Int.natCast_nonneg,qaz,qa1,qa7,qbF,qay,qaO,h1,h2,h3,c1,hn,hz,hz',hdE,qaN L hp,hp,bne]
  | false =>
    cases hc:qjW x.op with
    | true =>
      rw[hc] at c2
      unfold qeu
      simp -implicitDefEqProofs only[qam,qad,qae,qab,qal,qap,qac,qau,qah,aOp,opd,qai,qa3,qaB,qag,qaZ,qbb,qba,aUn,qas,qaj,qaw,qaA,qby,qbC,qaG,leaf,qar,qaV,gcE,qa0,qaf,qaE,qat,qaF,qa5,ren,renC,qbm,qbU,qcd,qco,qbx,qaa,qaq,qaQ,qav,qao,qb9,beq_self_eq_true,Option.map_some,List.map_cons,List.map_nil,List.flatMap_cons,List.flatMap_nil,List.length_cons,List.length_nil,List.cons_append,List.nil_append,List.append_nil,List.getElem?_cons_zero,List.getElem?_cons_succ,List.set_cons_zero,List.set_cons_succ,List.take_succ_cons,List.take_zero,List.drop_succ_cons,List.drop_zero,List.take_nil,List.drop_nil,List.all_cons,List.all_nil,↓reduceIte,Bool.and_true,Bool.false_and,Bool.or_true,Bool.not_false,Bool.false_eq_true,decide_true,decide_false,and_self,Nat.le_refl,Nat.add_zero,Nat.zero_add,Nat.reduceEqDiff,Nat.reduceAdd,Nat.reduceLeDiff,Int.reduceEq,Int.toNat_natCast,Int.natCast_nonneg,qaz,qa1,qa7,qbF,qay,h1,h2,h3,c2,hdE,qaN L hp,hp]
    | false =>
      rw[hc] at c2
      by_cases hz:qq5 lb=0
      ·rw[hz] at hn
       unfold qeu
       simp -implicitDefEqProofs only[qam,qad,qae,qab,qal,qac,qau,qah,aOp,opd,qai,qa3,qaB,qag,qaZ,qbb,qba,aUn,qas,qaj,qaw,qaA,qby,qbC,qaG,leaf,qar,qaV,qa0,qaf,qaE,qat,qaF,qa5,ren,renC,qbm,qbU,qcd,qco,qck,qbx,qcG,qbh,qbq,qaa,qbJ,qaq,qch,qbP,qaQ,qav,qao,qb9,beq_self_eq_true,Option.map_some,List.map_cons,List.map_nil,List.flatMap_cons,List.flatMap_nil,List.length_cons,List.length_nil,List.cons_append,List.nil_append,List.append_nil,List.getElem?_cons_zero,List.getElem?_cons_succ,List.set_cons_zero,List.set_cons_succ,List.take_succ_cons,List.take_zero,List.drop_succ_cons,List.drop_zero,List.take_nil,List.drop_nil,List.all_cons,List.all_nil,↓reduceIte,Bool.and_true,Bool.and_false,Bool.false_and,Bool.or_false,Bool.not_true,Bool.not_false,Bool.false_eq_true,decide_true,decide_false,and_self,Nat.le_refl,Nat.add_zero,Nat.zero_add,Nat.reduceEqDiff,Nat.reduceAdd,Nat.reduceLeDiff,Int.toNat_natCast,Int.natCast_nonneg,qaz,qa1,qa7,qbF,qay,qaO,h1,h2,h3,c2,hn,hz,hdE,qaN L hp,hp,bne]
      ·have hz':(qq5 lb==0)=false:=by simpa using hz
       unfold qeu
       simp -implicitDefEqProofs only[qam,qad,qae,qab,qal,qap,qac,qau,qah,aOp,opd,qai,qa3,qaB,qag,qaZ,qbb,qba,aUn,qas,qaj,qaw,qaA,qby,qbC,qaG,leaf,qar,qaV,gcE,qa0,qaf,qaE,qat,qaF,qa5,ren,renC,qbm,qbU,qcd,qco,qck,qbx,qcG,qbh,qbq,qaa,qaq,qch,qbP,qaQ,qav,qao,qb9,beq_self_eq_true,Option.map_some,List.map_cons,List.map_nil,List.flatMap_cons,List.flatMap_nil,List.length_cons,List.length_nil,List.cons_append,List.nil_append,List.append_nil,List.getElem?_cons_zero,List.getElem?_cons_succ,List.set_cons_zero,List.set_cons_succ,List.take_succ_cons,List.take_zero,List.drop_succ_cons,List.drop_zero,List.take_nil,List.drop_nil,List.all_cons,List.all_nil,↓reduceIte,Bool.and_true,Bool.and_false,Bool.false_and,Bool.or_false,Bool.not_false,Bool.false_eq_true,decide_true,decide_false,and_self,Nat.le_refl,Nat.add_zero,Nat.zero_add,Nat.reduceEqDiff,Nat.reduceAdd,Nat.reduceLeDiff,Int.toNat_natCast,Int.natCast_nonneg,qaz,qa1,qa7,qbF,qay,qaO,h1,h2,h3,c2,hn,hz,hz',hdE,qaN L hp,hp,bne]
 refine qsL e (fun x=>qdm flat (qgI e x)) (fun i=>⟨kt [1,2,3,18,19,20] [.list (ps.map qaY) none,.bool flat,.vptr [.list (e.map qaP) none] 0,.list (e.map qaP) none,.int .i64 e.length,.int .i64 i],[.gone]⟩) _
  (fun r=>⟨kt [1,3,6] [.list (ps.map qaY) none,.vptr [.list (e.map qaP) none] 0,.int .i64 r],[.gone]⟩) ?_ ?_ ?_
 ·intro i hi hz
  rw[hround i hi,if_pos hz]
 ·intro i hi hz
  rw[hround i hi,if_neg hz]
 ·have h0:=qbA e.length
  unfold qeu
  simp -implicitDefEqProofs only[qad,qae,qab,qbk,qac,qah,aOp,opd,qai,qaB,qag,qbb,qba,qaj,gcE,qa0,qaf,qaE,qat,qaF,qa5,ren,renC,qbm,qbU,qcd,qco,qaa,qaQ,qbX,qav,qao,List.map_cons,List.map_nil,List.flatMap_cons,List.flatMap_nil,List.length_cons,List.length_nil,List.append_nil,List.take_succ_cons,List.take_nil,↓reduceIte,Bool.and_true,Bool.false_eq_true,decide_false,Nat.le_refl,Nat.zero_add,Nat.reduceEqDiff,qaz,qa1,qay,h0,hdE]
theorem qvL (ps fs:List Int) (hps:ps.length<2 ^ 30) (hfs:fs.length<2 ^ 30) :
  qb7 L.pure (call L) 1 [1,51,52,53] [6] 2 qip ⟨kt [1,51,52,53] [.list (ps.map qaY) none,.list (fs.map qaY) none,.int .i64 fs.length,.int .i64 ((0:Nat):Int)],[.gone]⟩ =
  some (if (fs.any fun n => !qrC ps n)=true then (.ret,⟨kt [6] [.int .i64 6],[.gone]⟩) else (.normal,⟨kt [6] [.junk],[.gone]⟩)):=by
 have hL:=hC.plain
 have hp:=hL.pure
 refine qgJ fs (fun n => !qrC ps n) (fun i=>⟨kt [1,51,52,53] [.list (ps.map qaY) none,.list (fs.map qaY) none,.int .i64 fs.length,.int .i64 i],[.gone]⟩) _ _ ?_ ?_ ?_
 ·intro i hi hq
  obtain⟨h1,h2,h3⟩:=qbz qaY fs hfs i hi
  have hc:=qkE hL hC.f181 hC.f151 ps hps fs[i]
  have hq:qrC ps fs[i]=true:=by simpa using hq
  rw[hq] at hc
  generalize fs[i]=a at *
  unfold qip
  simp -implicitDefEqProofs only[qam,qad,qae,qab,qal,qac,qah,aOp,opd,qai,qaB,qag,qbb,qba,aUn,qas,qaj,qaA,qaM,qa0,qaf,qaE,qat,qaF,qa5,ren,renC,qbm,qbU,qcd,qco,qbo,qbx,qaa,qaq,qav,qao,List.map_cons,List.map_nil,List.flatMap_cons,List.flatMap_nil,List.length_cons,List.length_nil,List.append_nil,List.getElem?_cons_zero,List.take_succ_cons,List.take_nil,↓reduceIte,Bool.and_true,Bool.not_true,Bool.false_eq_true,decide_true,decide_false,and_self,Nat.le_refl,Nat.zero_add,Nat.reduceEqDiff,Int.toNat_natCast,Int.natCast_nonneg,qaz,qa1,qa7,qb1,qay,h1,h2,h3,hc,qaN L hp,hp]
 ·intro i hi hq
  obtain⟨h1,h2,h3⟩:=qbz qaY fs hfs i hi
  have hc:=qkE hL hC.f181 hC.f151 ps hps fs[i]
  have hq:qrC ps fs[i]=false:=by simpa using hq
  rw[hq] at hc
  generalize fs[i]=a at *
  unfold qip
  simp -implicitDefEqProofs only[qam,qad,qae,qab,qal,qap,qac,qah,aOp,opd,qai,qaB,qag,qbb,qba,aUn,qas,qaj,qaA,qaM,gcE,qa0,qaf,qaE,qat,qaF,qa5,ren,renC,qbm,qbU,qcd,qco,qbo,qbx,qaa,qaq,qav,qao,List.map_cons,List.map_nil,List.flatMap_cons,List.flatMap_nil,List.length_cons,List.length_nil,List.append_nil,List.getElem?_cons_zero,List.take_succ_cons,List.take_nil,↓reduceIte,Bool.and_true,Bool.not_false,Bool.false_eq_true,decide_true,decide_false,and_self,Nat.le_refl,Nat.zero_add,Nat.reduceEqDiff,Int.toNat_natCast,Int.natCast_nonneg,qaz,qa1,qa7,qb1,qay,h1,h2,h3,hc,qaN L hp,hp]
 ·have h0:=qbA fs.length
  unfold qip
  simp -implicitDefEqProofs only[qad,qae,qab,qbk,qac,qah,aOp,opd,qai,qaB,qag,qbb,qba,qaj,gcE,qa0,qaf,qaE,qat,qaF,qa5,ren,renC,qbm,qbU,qcd,qco,qbX,List.map_cons,List.map_nil,List.flatMap_cons,List.flatMap_nil,List.length_cons,List.length_nil,List.append_nil,List.take_succ_cons,List.take_nil,↓reduceIte,Bool.false_eq_true,decide_false,Nat.le_refl,Nat.zero_add,Nat.reduceEqDiff,qaz,qa1,h0]
theorem qvM (e:List CExpr) (hl:e.length<2 ^ 30) (hf:∀ x∈e,NodeFit x) (ps:List Int) (hps:ps.length<2 ^ 30) (flat:Bool) (h:Heap) :
  pcall L 165 [.list (e.map qaP) none,.list (ps.map qaY) none,.bool flat] h=some (.val (.int .i64 (qkr e ps flat)),h):=by
 have hL:=hC.plain
 have hp:=hL.pure
 have hdE:=qbg e
 refine qbK hL hC.f165 rfl ?_ h
 have htree:=qxP hL hC.f190 e hf hl
 unfold qkr
 by_cases ht:qgj e=0
 ·have htz:=(qgV e).1 ht
  obtain⟨hT,hn,hg⟩:=htz
  have hne:e≠[]:=fun h=>by have:=hT.pos;rw[h] at this;simp at this
  have hl0:=qvK hC e hl hf hT.ahead ps flat
  simp only[Int.natCast_zero] at hl0
  rw[if_neg (fun h=>h ht)]
  rw[ht] at htree
  by_cases hz:qcR (e.map fun x=>qdm flat (qgI e x))=0
  ·rw[if_pos hz] at hl0
   rw[if_neg (fun h=>h hz)]
   have hall:=(qeO _ e).1 hz
   have herr:∀ x∈e,qq5 (qgI e x)=0:=by
    intro x hx
    have:=hall x hx
    unfold qdm at this
    split at this
    ·cases this
    ·exact this
   have hb:∀ x∈e,qqL x:=by
    intro x hx
    have:=qqe (herr x hx) (by unfold qgI;rw[List.length_map];have:=qsD e hT x hx;omega)
    unfold qqL
    unfold qgI at this
    dsimp only at this
    omega
   have htw:=qvl hL hC.f232 hC.f195 e hl hf hb ps hps
   cases hw:qjn e ps with
   | true =>
     rw[hw] at htw
     rw[if_pos rfl]
     unfold fn165
     simp -implicitDefEqProofs only[qam,qad,qae,qab,qap,qac,qah,aOp,opd,qai,qak,qaB,qag,qbb,qcg,qba,qaj,qaA,leaf,qbn,qaT,qan,qax,qaH,qaS,qa0,qaf,qaE,qat,qaF,qa5,ren,renC,qbm,qbU,qcd,qco,qbo,qbM,qbh,qaa,qbJ,qaq,qaQ,qav,qao,beq_self_eq_true,Option.getD_some,List.map_cons,List.map_nil,List.flatMap_cons,List.flatMap_nil,List.length_cons,List.length_nil,List.length_map,List.nil_append,List.append_nil,List.getElem?_cons_zero,List.getElem?_cons_succ,List.set_cons_zero,List.take_succ_cons,List.take_nil,List.all_cons,List.all_nil,↓reduceIte,Bool.and_true,Bool.not_true,Bool.false_eq_true,false_and,decide_false,and_self,Nat.le_refl,reduceCtorEq,Nat.zero_add,Nat.reduceEqDiff,Nat.reduceLT,qbO,qca,qcC,qc0,frz,frzC,qja,qa7,qaI,qay,htree,hl0,htw,hdE,qaN L hp,hp,bne]
   | false =>
     rw[hw] at htw
     rw[if_neg (by decide)]
     have hgrow:=fun h=>hC.grow e h hl hf hT hg
     have hfit:TFit (qb2 e):=qpM e hT.ahead hf hb _ (by have:=hT.pos;omega)
     have hsz:=qhx e hT
     have hfl:=qqg (qb2 e) ([],[])
     rw[List.length_nil,Nat.zero_add,hsz] at hfl
     have hfree:=qsq hL hC.prims hC.f236 hC.f196 hC.f167 (qb2 e) hfit (by omega) (by omega)
     have hfo:(qgl (qb2 e)).length<2 ^ 30:=by
      unfold qgl qdl
      rw[qfl,List.length_map]
      omega
     have hl1:=qvL hC ps (qgl (qb2 e)) hps hfo
     simp only[Int.natCast_zero] at hl1
     generalize qgl (qb2 e)=fs at *
     obtain⟨tc,htc,hdt⟩:=qcH (qb2 e)
     rw[htc] at hgrow hfree
     cases hx:fs.any fun n => !qrC ps n with
     | true =>
       simp only[hx,if_true] at hl1
       rw[if_pos rfl]
       unfold fn165
       simp -implicitDefEqProofs only[qam,qad,qae,qab,qac,qah,aOp,opd,qai,qak,qaB,qag,qbb,qcg,qba,qaj,qaA,leaf,qbn,qaT,qan,qax,qaH,qaS,qa0,qaf,qaE,qat,qaF,qa5,ren,renC,qbm,qbU,qcd,qco,qbo,qbM,qbD,qbh,qaa,qbJ,qaq,qaQ,qav,qao,beq_self_eq_true,Option.getD_some,List.map_cons,List.map_nil,List.flatMap_cons,List.flatMap_nil,List.length_cons,List.length_nil,List.length_map,List.nil_append,List.append_nil,List.getElem?_cons_zero,List.getElem?_cons_succ,List.set_cons_zero,List.take_succ_cons,List.take_nil,List.all_cons,List.all_nil,↓reduceIte,Bool.and_true,Bool.not_true,Bool.false_eq_true,false_and,decide_false,and_self,Nat.le_refl,reduceCtorEq,Nat.zero_add,Nat.reduceEqDiff,Nat.reduceLT,qa1,qbO,qca,qcC,qc0,frz,frzC,qja,qa7,qaI,qay,htree,hl0,htw,hgrow,hfree,hl1,hdE,hdt,qbD,qaN L hp,hp,bne]
     | false =>
       simp only[hx,Bool.false_eq_true,if_false] at hl1
       rw[if_neg (by decide)]
       unfold fn165
       simp -implicitDefEqProofs only[qam,qad,qae,qab,qap,qac,qah,aOp,opd,qai,qak,qaB,qag,qbb,qcg,qba,qaj,qaA,leaf,qbn,qaT,qan,qax,qaH,qaS,qa0,qaf,qaE,qat,qaF,qa5,ren,renC,qbm,qbU,qcd,qco,qbo,qbM,qbD,qbh,qaa,qbJ,qaq,qaQ,qav,qao,beq_self_eq_true,Option.getD_some,List.map_cons,List.map_nil,List.flatMap_cons,List.flatMap_nil,List.length_cons,List.length_nil,List.length_map,List.nil_append,List.append_nil,List.getElem?_cons_zero,List.getElem?_cons_succ,List.set_cons_zero,List.take_succ_cons,List.take_nil,List.all_cons,List.all_nil,↓reduceIte,Bool.and_true,Bool.not_true,Bool.false_eq_true,false_and,decide_false,and_self,Nat.le_refl,reduceCtorEq,Nat.zero_add,Nat.reduceEqDiff,Nat.reduceLT,qa1,qbO,qca,qcC,qc0,frz,frzC,qja,qa7,qaI,qay,htree,hl0,htw,hgrow,hfree,hl1,hdE,hdt,qbD,qaN L hp,hp,bne]
  ·rw[if_neg hz] at hl0
   rw[if_pos hz]
   generalize qcR (e.map fun x=>qdm flat (qgI e x))=r at *
   unfold fn165
   simp -implicitDefEqProofs only[qam,qad,qae,qab,qac,qah,aOp,opd,qai,qak,qaB,qag,qbb,qcg,qba,qaj,qaA,leaf,qbn,qaT,qan,qax,qaH,qaS,qa0,qaf,qaE,qat,qaF,qa5,ren,renC,qbm,qbU,qcd,qco,qbo,qbM,qbh,qaa,qbJ,qaq,qaQ,qav,qao,beq_self_eq_true,Option.getD_some,List.map_cons,List.map_nil,List.flatMap_cons,List.flatMap_nil,List.length_cons,List.length_nil,List.length_map,List.nil_append,List.append_nil,List.getElem?_cons_zero,List.getElem?_cons_succ,List.set_cons_zero,List.take_succ_cons,List.take_nil,List.all_cons,List.all_nil,↓reduceIte,Bool.and_true,Bool.not_true,Bool.false_eq_true,false_and,decide_false,and_self,Nat.le_refl,reduceCtorEq,Nat.zero_add,Nat.reduceEqDiff,Nat.reduceLT,qbO,qca,qcC,qc0,frz,frzC,qja,qa7,qaI,qay,htree,hl0,hdE,qaN L hp,hp,bne]
 ·have hz':(qgj e==0)=false:=by simpa using ht
  rw[if_pos ht]
  unfold fn165
  simp -implicitDefEqProofs only[qad,qae,qab,qap,qac,qah,aOp,opd,qai,qak,qag,qbb,qba,qaj,qaA,qbn,qaT,qan,qax,qaH,qbo,qbM,qaa,qav,qao,Option.getD_some,List.map_cons,List.map_nil,List.length_nil,List.nil_append,List.getElem?_cons_zero,↓reduceIte,Bool.and_true,Bool.not_false,Bool.false_eq_true,and_self,Nat.reduceEqDiff,qa7,qaI,htree,hz',hdE,qaN L hp,hp,bne]
def qbH (e:List CExpr):Int:=qkr e [] false
theorem qg2 (e:List CExpr) (hl:e.length<2 ^ 30) (hf:∀ x∈e,NodeFit x) (h:Heap):pcall L 134 [.list (e.map qaP) none] h=some (.val (.int .i64 (qbH e)),h):=by
 have hL:=hC.plain
 have hp:=hL.pure
 have hdE:=qbg e
 refine qbK hL hC.f134 rfl ?_ h
 have hb:=qvM hC e hl hf [] (by simp) false
 unfold qbH fn134
 simp -implicitDefEqProofs only[qad,qae,qap,qac,qah,aOp,opd,qai,qak,qaT,qan,qax,qaH,qbo,qgX,qaa,qbJ,qav,qao,Option.getD_some,List.map_cons,List.map_nil,List.getElem?_cons_zero,↓reduceIte,Bool.and_true,and_self,reduceCtorEq,qa7,hdE,qaN L hp,hp]
 simp only[List.map_nil] at hb
 simp -implicitDefEqProofs only[qai,qbM,↓reduceIte,qaI,hb]
end
theorem qgk:∀ (a b:List CTree),qa6 (a++b)=qa6 a+qa6 b
 | [],b=>by rw[List.nil_append,qa6];omega
 | x::a,b=>by rw[List.cons_append,qa6,qa6,qgk a b];omega
theorem qhZ:∀ (ks:List CTree) (k:CTree) (b:Nat),qbs (ks++[k]) b=qbs ks b++qdH k (b+qa6 ks)
 | [],k,b=>by rw[List.nil_append,qbs,qbs,qbs,qa6,List.append_nil];rfl
 | x :: ks,k,b => by
   rw[List.cons_append,qbs,qbs,qhZ ks k,qa6,List.append_assoc,Nat.add_assoc]
theorem qgR:∀ (ks:List CTree) (k:CTree) (b:Nat),qbt (ks++[k]) b=qbt ks b++[((b+qa6 ks+qbv k-1:Nat):Int)]
 | [],k,b=>by rw[List.nil_append,qbt,qbt,qbt,qa6];rfl
 | x :: ks,k,b => by
   rw[List.cons_append,qbt,qbt,qgR ks k,qa6]
   rw[show b+qbv x+qa6 ks+qbv k-1=b+(qbv x+qa6 ks)+qbv k-1 by omega]
   rfl
theorem qfa:∀ (ks:List CTree) (b:Nat),(qbt ks b).length=ks.length
 | [],b=>rfl
 | k::ks,b=>by rw[qbt,List.length_cons,qfa ks];rfl
theorem qlo (ks:List CTree) (j:Nat) (hj:j<ks.length):qa6 (ks.take (j+1))=qa6 (ks.take j)+qbv ks[j]:=by
 rw[List.take_succ_eq_append_getElem hj,qgk,qa6,qa6]
 omega
theorem qgW (ks:List CTree) (j:Nat):qa6 (ks.take j)≤qa6 ks:=by
 conv=>rhs;rw[← List.take_append_drop j ks,qgk]
 omega
section
variable {L:Lib} (hL:Plain L)
include hL
def hB (op n:Int) (binds:List Int) (outs:List CExpr) (ids:List Int) (j:Nat):Heap :=
 if j=0 then [.box [.func 187 [] [.ptr (some (0,0)),.ptr (some (1,0))]],.box [.list [] (some none)],.box [.int .i64 op,.int .i64 n,.list (binds.map qaY) none,.list [] (some none),.list [] (some none)]]
 else [.box [.func 187 [] [.ptr (some (0,0)),.ptr (some (1,0))]],.box [.list (outs.map qaP) (some (some 3))],.box [.int .i64 op,.int .i64 n,.list (binds.map qaY) none,.list (ids.map qaY) (some (some 4)),.list [] (some none)],.tail outs.length 5,.tail j 1]
end
end Go.Abs
