/-
  PARTS OF A PROOF, joined: an abstract machine for quiet code, its evaluation, and what the seat's functions answer on it. Conditions: none.
-/
import Derived.Test.YtbmognfolkhkpaaDoorN
import Derived.Test.YtbmognfolkhkpaaDoorC
set_option linter.unusedVariables false
set_option linter.unusedSimpArgs false
set_option maxRecDepth 100000
set_option maxHeartbeats 4000000
namespace Go.Abs
theorem qku:∀ (as:List CAlt) (b:Int),b≤qbX b as∧∀ a∈as,(a.binds.length:Int)≤qbX b as
 | [],b=>⟨Int.le_refl _,by simp⟩
 | a :: as,b => by
   obtain⟨h1,h2⟩:=qku as (max b (a.binds.length:Int))
   have e:qbX b (a::as)=qbX (max b (a.binds.length:Int)) as:=rfl
   rw[e]
   refine⟨by omega,fun x hx=>?_⟩
   rcases List.mem_cons.1 hx with rfl | hx
   ·omega
   ·exact h2 x hx
theorem qiN {op n:Int} {binds:List Int} {kl:Nat} {as:List CAlt} (h:qcP op n binds kl as=0):qbX binds.length as≤16:=by
 unfold qcP at h
 split at h
 ·cases h
 ·split at h
  ·cases h
  ·split at h
   ·cases h
   ·split at h
    ·cases h
    ·rename_i ht
     unfold qk8 at ht
     simp only[Bool.or_eq_true,decide_eq_true_eq,not_or] at ht
     have:=ht.1.1.1
     split at this<;>omega
theorem ql4 {op n:Int} {bl kl:Nat} {as:List CAlt} (h:qcz op n bl kl as=true):as.length=0∨kl=as.length+1:=by
 unfold qcz at h
 split at h
 ·simp only[Bool.and_eq_true] at h
  have:=h.1.1
  unfold qic at this
  simp only[Bool.and_eq_true,beq_iff_eq] at this
  right
  omega
 ·split at h
  ·cases h
  ·unfold qeV at h
   simp only[Bool.and_eq_true,beq_iff_eq] at h
   left
   omega
theorem qlB (as:List CAlt) (h:∀ a∈as,a.binds.length≤16):(as.flatMap (·.binds)).length≤16*as.length:=by
 induction as with
 | nil=>simp
 | cons a as ih =>
   rw[List.flatMap_cons,List.length_append,List.length_cons]
   have:=h a (by simp)
   have:=ih fun x hx=>h x (by simp[hx])
   omega
theorem qpF {l:Lab} (h:qoQ l=0) (hk:l.kops.length≤4096):(l.binds++l.alts.flatMap (·.binds)).length≤16+16*4096:=by
 unfold qoQ at h
 split at h
 ·cases h
 ·rename_i hs
  have hs:qcz l.op l.n l.binds.length l.kops.length l.alts=true:=by simpa using hs
  split at h
  ·rename_i hr;exact absurd h hr
  ·rename_i hr
   have hr:qcP l.op l.n l.binds l.kops.length l.alts=0:=Classical.not_not.1 hr
   have hf:=qiN hr
   obtain⟨h1,h2⟩:=qku l.alts (l.binds.length:Int)
   have h3:=qlB l.alts fun a ha=>by have:=h2 a ha;omega
   rw[List.length_append]
   rcases ql4 hs with h4 | h4<;>omega
theorem qqF (e:List CExpr) (h:TreeL e):(e.flatMap (·.kids)).length+1=e.length:=by
 have h1:=(qgX e h).length_eq
 rw[List.length_range,List.length_cons] at h1
 have h2:((List.range e.length).flatMap (qcw e)).length=(e.flatMap (·.kids)).length:=by
  have h3:e=(List.range e.length).map fun i=>(e[i]?).getD ⟨0,0,[],[],[]⟩:=by
   refine List.ext_getElem (by simp) fun i h1 h2=>?_
   simp[h1]
  conv=>rhs;rw[h3,List.flatMap_map]
  rw[List.length_flatMap,List.length_flatMap]
  congr 1
  refine List.map_congr_left fun i hi=>?_
  have hi:=List.mem_range.1 hi
  unfold qcw
  simp[hi]
 omega
theorem qr4 (e:List CExpr) (h:TreeL e) (x:CExpr) (hx:x∈e):x.kids.length≤e.length:=by
 have h1:=qqF e h
 obtain⟨s,t,rfl⟩:=List.append_of_mem hx
 rw[List.flatMap_append,List.flatMap_cons,List.length_append,List.length_append] at h1
 omega
theorem quG {β:Type} (v:Int) (b:β) (m:IM β):(qlV v b m).length≤m.length+1:=by
 have hins:∀ m:IM β,(qmw v b m).length=m.length+1:=by
  intro m
  induction m with
  | nil=>rfl
  | cons p m ih=>unfold qmw;split<;>simp[ih]
 unfold qlV
 split
 ·unfold qob;simp
 ·rw[hins];omega
mutual
theorem qpI:∀ (t:CTree) (s:FS),(qeQ t s).2.length≤s.2.length+qbR t
 | .mk op n binds kids alts,s => by
   rw[qeQ,qbR]
   have:=qnl op binds alts kids 0 (qeb op n s)
   have h2:(qeb op n s).2.length≤s.2.length+1:=by
    unfold qeb
    split
    ·exact quG _ _ _
    ·omega
   omega
theorem qnl (op:Int) (binds:List Int) (alts:List CAlt):∀ (ks:List CTree) (k:Nat) (s:FS),(qeK op binds alts ks k s).2.length≤s.2.length+qbd ks
 | [],k,s=>by rw[qeK];omega
 | kid :: ks,k,s => by
   rw[qeK,qbd]
   have h1:=qnl op binds alts ks (k+1) ((qcq op binds alts k).foldl (qhF (-1)) (qeQ kid ((qcq op binds alts k).foldl (qhF 1) s.1,s.2)).1,(qeQ kid ((qcq op binds alts k).foldl (qhF 1) s.1,s.2)).2)
   have h2:=qpI kid ((qcq op binds alts k).foldl (qhF 1) s.1,s.2)
   dsimp only at h1 h2
   omega
end
theorem qsV (e:List CExpr) (hk:qhJ e) (hf:∀ x∈e,NodeFit x) (hb:∀ x∈e,qqd x):∀ i,i<e.length→TFit (qeM e i):=by
 intro i
 induction i using Nat.strongRecOn with
 | ind i ih =>
   intro hi
   rw[qfZ e hk i hi]
   have hx:=hf e[i] (List.getElem_mem hi)
   refine .mk _ _ _ _ _ (hb e[i] (List.getElem_mem hi)) (by rw[List.length_map];exact hx.kids) hx.alts ?_
   intro k hkm
   obtain⟨q,hq,rfl⟩:=List.mem_map.1 hkm
   obtain⟨q0,q1⟩:=hk i hi q hq
   exact ih q.toNat (by omega) (by omega)
def qxV (flat:Bool) (op:Int):Bool:=(flat && qjL op) || (!flat && qjN op)
def qcM (flat:Bool) (l:Lab):Int:=if qxV flat l.op=true then 3 else qoQ l
def qiV (e:List CExpr) (ps:List Int) (flat:Bool):Int :=
 if qfz e≠0 then qfz e
 else if qcE (e.map fun x=>qcM flat (qgD e x))≠0 then qcE (e.map fun x=>qcM flat (qgD e x))
 else if qjh e ps=true then 7
 else if ((qeL (qb2 e)).any fun n => !qqA ps n)=true then 6 else 0
theorem qd9 {α:Type} (g:α→Int):∀ (l:List α),qcE (l.map g)=0↔∀ x∈l,g x=0
 | []=>by simp[qcE]
 | x :: l => by
   rw[List.map_cons,qcE]
   by_cases h:g x=0
   ·rw[if_pos h,qd9 g l]
    simp[h]
   ·rw[if_neg h]
    simp[h]
structure CLib (L:Lib):Prop where
 plain:Plain L
 prims:CPrims L qb4
 f134:L.fns 134=some fn134
 f151:L.fns 151=some fn151
 grow:∀ (e:List CExpr) (h:Heap),e.length<2 ^ 30→(∀ x∈e,NodeFit x)→TreeL e→hgt (qb2 e)≤400→pcall L 160 [.list (e.map qaH) none] h=some (.val (qaX (qb2 e)),h)
 f165:L.fns 165=some fn165
 f167:L.fns 167=some fn167
 f181:L.fns 181=some fn181
 f190:L.fns 190=some fn190
 f191:L.fns 191=some fn191
 f192:L.fns 192=some fn192
 f193:L.fns 193=some fn193
 f194:L.fns 194=some fn194
 f195:L.fns 195=some fn195
 f196:L.fns 196=some fn196
 f232:L.fns 232=some fn232
 f234:L.fns 234=some fn234
 f235:L.fns 235=some fn235
 f236:L.fns 236=some fn236
 f258:L.fns 258=some fn258
 f259:L.fns 259=some fn259
 f264:L.fns 264=some fn264
 f265:L.fns 265=some fn265
 f266:L.fns 266=some fn266
section
variable {L:Lib} (hC:CLib L)
include hC
theorem qvo (e:List CExpr) (hl:e.length<2 ^ 30) (hf:∀ x∈e,NodeFit x) (hk:qhJ e) (ps:List Int) (flat:Bool) :
  qcg L.pure (call L) 1 [1,2,3,18,19,20] [1,3,6] 0 qev ⟨kt [1,2,3,18,19,20] [.list (ps.map qaP) none,.bool flat,.vptr [.list (e.map qaH) none] 0,.list (e.map qaH) none,.int .i64 e.length,.int .i64 ((0:Nat):Int)],[.gone]⟩ =
  some (if qcE (e.map fun x=>qcM flat (qgD e x))=0 then (.normal,⟨kt [1,3,6] [.list (ps.map qaP) none,.vptr [.list (e.map qaH) none] 0,.junk],[.gone]⟩)
   else (.ret,⟨kt [1,3,6] [.list (ps.map qaP) none,.vptr [.list (e.map qaH) none] 0,.int .i64 (qcE (e.map fun x=>qcM flat (qgD e x)))],[.gone]⟩)):=by
 have hL:=hC.plain
 have hp:=hL.pure
 have hdE:=qa3 e
 have hround:∀ (i:Nat) (hi:i<e.length),qch L.pure (call L) 1 [1,2,3,18,19,20] [1,3,6] qev ⟨kt [1,2,3,18,19,20] [.list (ps.map qaP) none,.bool flat,.vptr [.list (e.map qaH) none] 0,.list (e.map qaH) none,.int .i64 e.length,.int .i64 i],[.gone]⟩ =
   some (if qcM flat (qgD e e[i])=0 then (.normal,⟨kt [1,2,3,18,19,20] [.list (ps.map qaP) none,.bool flat,.vptr [.list (e.map qaH) none] 0,.list (e.map qaH) none,.int .i64 e.length,.int .i64 ((i+1:Nat):Int)],[.gone]⟩)
    else (.ret,⟨kt [1,3,6] [.list (ps.map qaP) none,.vptr [.list (e.map qaH) none] 0,.int .i64 (qcM flat (qgD e e[i]))],[.gone]⟩)):=by
  intro i hi
  obtain⟨h1,h2,h3⟩:=qbE qaH e hl i hi
  have hn:=qxb hL hC.f265 hC.f264 hC.f266 hC.f258 hC.f259 hC.f234 hC.f235 hC.f194 hC.f193 e e[i] (hf e[i] (List.getElem_mem hi)) (fun k hkm=>by have:=hk i hi k hkm;omega)
  have c1:=qoP hL hC.f191 e[i].op
  have c2:=qoS hL hC.f192 e[i].op
  unfold qo0 at hn
  unfold qcM
  have hop:(qgD e e[i]).op=e[i].op:=rfl
  rw[hop]
  generalize qgD e e[i]=lb at *
  generalize e[i]=x at *
  rw[qbB] at hn
  unfold qxV
  cases flat with
  | true =>
    cases hc:qjL x.op with
    | true =>
      rw[hc] at c1
      unfold qev
      simp -implicitDefEqProofs only[qaq,qad,qae,qaf,qao,qax,qab,qaC,qah,aOp,opd,qai,qa1,qav,qag,qaV,qbh,qbg,qaE,qaj,qaA,qaF,qbC,qbG,qaK,leaf,qaw,qaT,gcE,qaS,qac,qay,qam,qaz,qaU,ren,renC,qbp,qbW,qca,qcf,qby,qaa,qal,qaN,qap,qak,qdj,beq_self_eq_true,Option.map_some,List.map_cons,List.map_nil,List.flatMap_cons,List.flatMap_nil,List.length_cons,List.length_nil,List.cons_append,List.nil_append,List.append_nil,List.getElem?_cons_zero,List.getElem?_cons_succ,List.set_cons_zero,List.set_cons_succ,List.take_succ_cons,List.take_zero,List.drop_succ_cons,List.drop_zero,List.take_nil,List.drop_nil,List.all_cons,List.all_nil,↓reduceIte,Bool.and_true,Bool.false_and,Bool.or_false,Bool.not_true,Bool.false_eq_true,decide_true,decide_false,and_self,Nat.le_refl,Nat.add_zero,Nat.zero_add,Nat.reduceEqDiff,Nat.reduceAdd,Nat.reduceLeDiff,Int.reduceEq,Int.toNat_natCast,Int.natCast_nonneg,qau,qaQ,qa4,qbB,qar,h1,h2,h3,c1,hdE,qaJ L hp,hp]
    | false =>
      rw[hc] at c1
      by_cases hz:qoQ lb=0
      ·rw[hz] at hn
       unfold qev
       simp -implicitDefEqProofs only[qaq,qad,qae,qaf,qao,qab,qaC,qah,aOp,opd,qai,qa1,qav,qag,qaV,qbh,qbg,aUn,qaE,qaj,qaA,qaF,qbC,qbG,qaK,leaf,qaw,qaT,qaS,qac,qay,qam,qaz,qaU,ren,renC,qbp,qbW,qca,qcf,qcj,qby,qcy,qba,qbs,qaa,qbI,qal,qcd,qbK,qaN,qap,qak,qcI,beq_self_eq_true,Option.map_some,List.map_cons,List.map_nil,List.flatMap_cons,List.flatMap_nil,List.length_cons,List.length_nil,List.cons_append,List.nil_append,List.append_nil,List.getElem?_cons_zero,List.getElem?_cons_succ,List.set_cons_zero,List.set_cons_succ,List.take_succ_cons,List.take_zero,List.drop_succ_cons,List.drop_zero,List.take_nil,List.drop_nil,List.all_cons,List.all_nil,↓reduceIte,Bool.and_true,Bool.and_false,Bool.false_and,Bool.or_false,Bool.not_true,Bool.false_eq_true,decide_true,decide_false,and_self,Nat.le_refl,Nat.add_zero,Nat.zero_add,Nat.reduceEqDiff,Nat.reduceAdd,Nat.reduceLeDiff,Int.toNat_natCast,Int.natCast_nonneg,qau,qaQ,qa4,qbB,qar,qaG,h1,h2,h3,c1,hn,hz,hdE,qaJ L hp,hp,bne]
      ·have hz':(qoQ lb==0)=false:=by simpa using hz
       unfold qev
       simp -implicitDefEqProofs only[qaq,qad,qae,qaf,qao,qax,qab,qaC,qah,aOp,opd,qai,qa1,qav,qag,qaV,qbh,qbg,aUn,qaE,qaj,qaA,qaF,qbC,qbG,qaK,leaf,qaw,qaT,gcE,qaS,qac,qay,qam,qaz,qaU,ren,renC,qbp,qbW,qca,qcf,qcj,qby,qcy,qba,qbs,qaa,qal,qcd,qbK,qaN,qap,qak,qcI,beq_self_eq_true,Option.map_some,List.map_cons,List.map_nil,List.flatMap_cons,List.flatMap_nil,List.length_cons,List.length_nil,List.cons_append,List.nil_append,List.append_nil,List.getElem?_cons_zero,List.getElem?_cons_succ,List.set_cons_zero,List.set_cons_succ,List.take_succ_cons,List.take_zero,List.drop_succ_cons,List.drop_zero,List.take_nil,List.drop_nil,List.all_cons,List.all_nil,↓reduceIte,Bool.and_true,Bool.and_false,Bool.false_and,Bool.or_false,Bool.not_true,Bool.not_false,Bool.false_eq_true,decide_true,decide_false,and_self,Nat.le_refl,Nat.add_zero,Nat.zero_add,Nat.reduceEqDiff,Nat.reduceAdd,Nat.reduceLeDiff,Int.toNat_natCast,Int.natCast_nonneg,qau,qaQ,qa4,qbB,qar,qaG,h1,h2,h3,c1,hn,hz,hz',hdE,qaJ L hp,hp,bne]
  | false =>
    cases hc:qjN x.op with
    | true =>
      rw[hc] at c2
      unfold qev
      simp -implicitDefEqProofs only[qaq,qad,qae,qaf,qao,qax,qab,qaC,qah,aOp,opd,qai,qa1,qav,qag,qaV,qbh,qbg,aUn,qaE,qaj,qaA,qaF,qbC,qbG,qaK,leaf,qaw,qaT,gcE,qaS,qac,qay,qam,qaz,qaU,ren,renC,qbp,qbW,qca,qcf,qby,qaa,qal,qaN,qap,qak,qcI,beq_self_eq_true,Option.map_some,List.map_cons,List.map_nil,List.flatMap_cons,List.flatMap_nil,List.length_cons,List.length_nil,List.cons_append,List.nil_append,List.append_nil,List.getElem?_cons_zero,List.getElem?_cons_succ,List.set_cons_zero,List.set_cons_succ,List.take_succ_cons,List.take_zero,List.drop_succ_cons,List.drop_zero,List.take_nil,List.drop_nil,List.all_cons,List.all_nil,↓reduceIte,Bool.and_true,Bool.false_and,Bool.or_true,Bool.not_false,Bool.false_eq_true,decide_true,decide_false,and_self,Nat.le_refl,Nat.add_zero,Nat.zero_add,Nat.reduceEqDiff,Nat.reduceAdd,Nat.reduceLeDiff,Int.reduceEq,Int.toNat_natCast,Int.natCast_nonneg,qau,qaQ,qa4,qbB,qar,h1,h2,h3,c2,hdE,qaJ L hp,hp]
    | false =>
      rw[hc] at c2
      by_cases hz:qoQ lb=0
      ·rw[hz] at hn
       unfold qev
       simp -implicitDefEqProofs only[qaq,qad,qae,qaf,qao,qab,qaC,qah,aOp,opd,qai,qa1,qav,qag,qaV,qbh,qbg,aUn,qaE,qaj,qaA,qaF,qbC,qbG,qaK,leaf,qaw,qaT,qaS,qac,qay,qam,qaz,qaU,ren,renC,qbp,qbW,qca,qcf,qcj,qby,qcy,qba,qbs,qaa,qbI,qal,qcd,qbK,qaN,qap,qak,qcI,beq_self_eq_true,Option.map_some,List.map_cons,List.map_nil,List.flatMap_cons,List.flatMap_nil,List.length_cons,List.length_nil,List.cons_append,List.nil_append,List.append_nil,List.getElem?_cons_zero,List.getElem?_cons_succ,List.set_cons_zero,List.set_cons_succ,List.take_succ_cons,List.take_zero,List.drop_succ_cons,List.drop_zero,List.take_nil,List.drop_nil,List.all_cons,List.all_nil,↓reduceIte,Bool.and_true,Bool.and_false,Bool.false_and,Bool.or_false,Bool.not_true,Bool.not_false,Bool.false_eq_true,decide_true,decide_false,and_self,Nat.le_refl,Nat.add_zero,Nat.zero_add,Nat.reduceEqDiff,Nat.reduceAdd,Nat.reduceLeDiff,Int.toNat_natCast,Int.natCast_nonneg,qau,qaQ,qa4,qbB,qar,qaG,h1,h2,h3,c2,hn,hz,hdE,qaJ L hp,hp,bne]
      ·have hz':(qoQ lb==0)=false:=by simpa using hz
       unfold qev
       simp -implicitDefEqProofs only[qaq,qad,qae,qaf,qao,qax,qab,qaC,qah,aOp,opd,qai,qa1,qav,qag,qaV,qbh,qbg,aUn,qaE,qaj,qaA,qaF,qbC,qbG,qaK,leaf,qaw,qaT,gcE,qaS,qac,qay,qam,qaz,qaU,ren,renC,qbp,qbW,qca,qcf,qcj,qby,qcy,qba,qbs,qaa,qal,qcd,qbK,qaN,qap,qak,qcI,beq_self_eq_true,Option.map_some,List.map_cons,List.map_nil,List.flatMap_cons,List.flatMap_nil,List.length_cons,List.length_nil,List.cons_append,List.nil_append,List.append_nil,List.getElem?_cons_zero,List.getElem?_cons_succ,List.set_cons_zero,List.set_cons_succ,List.take_succ_cons,List.take_zero,List.drop_succ_cons,List.drop_zero,List.take_nil,List.drop_nil,List.all_cons,List.all_nil,↓reduceIte,Bool.and_true,Bool.and_false,Bool.false_and,Bool.or_false,Bool.not_false,Bool.false_eq_true,decide_true,decide_false,and_self,Nat.le_refl,Nat.add_zero,Nat.zero_add,Nat.reduceEqDiff,Nat.reduceAdd,Nat.reduceLeDiff,Int.toNat_natCast,Int.natCast_nonneg,qau,qaQ,qa4,qbB,qar,qaG,h1,h2,h3,c2,hn,hz,hz',hdE,qaJ L hp,hp,bne]
 refine qr9 e (fun x=>qcM flat (qgD e x)) (fun i=>⟨kt [1,2,3,18,19,20] [.list (ps.map qaP) none,.bool flat,.vptr [.list (e.map qaH) none] 0,.list (e.map qaH) none,.int .i64 e.length,.int .i64 i],[.gone]⟩) _
  (fun r=>⟨kt [1,3,6] [.list (ps.map qaP) none,.vptr [.list (e.map qaH) none] 0,.int .i64 r],[.gone]⟩) ?_ ?_ ?_
 ·intro i hi hz
  rw[hround i hi,if_pos hz]
 ·intro i hi hz
  rw[hround i hi,if_neg hz]
 ·have h0:=qbF e.length
  unfold qev
  simp -implicitDefEqProofs only[qad,qae,qaf,qbl,qab,qah,aOp,opd,qai,qav,qag,qbh,qbg,qaj,gcE,qaS,qac,qay,qam,qaz,qaU,ren,renC,qbp,qbW,qca,qcf,qaa,qaN,qb1,qap,qak,List.map_cons,List.map_nil,List.flatMap_cons,List.flatMap_nil,List.length_cons,List.length_nil,List.append_nil,List.take_succ_cons,List.take_nil,↓reduceIte,Bool.and_true,Bool.false_eq_true,decide_false,Nat.le_refl,Nat.zero_add,Nat.reduceEqDiff,qau,qaQ,qar,h0,hdE]
theorem qvp (ps fs:List Int) (hps:ps.length<2 ^ 30) (hfs:fs.length<2 ^ 30) :
  qcg L.pure (call L) 1 [1,51,52,53] [6] 2 qip ⟨kt [1,51,52,53] [.list (ps.map qaP) none,.list (fs.map qaP) none,.int .i64 fs.length,.int .i64 ((0:Nat):Int)],[.gone]⟩ =
  some (if (fs.any fun n => !qqA ps n)=true then (.ret,⟨kt [6] [.int .i64 6],[.gone]⟩) else (.normal,⟨kt [6] [.junk],[.gone]⟩)):=by
 have hL:=hC.plain
 have hp:=hL.pure
 refine qkJ fs (fun n => !qqA ps n) (fun i=>⟨kt [1,51,52,53] [.list (ps.map qaP) none,.list (fs.map qaP) none,.int .i64 fs.length,.int .i64 i],[.gone]⟩) _ _ ?_ ?_ ?_
 ·intro i hi hq
  obtain⟨h1,h2,h3⟩:=qbE qaP fs hfs i hi
  have hc:=qkr hL hC.f181 hC.f151 ps hps fs[i]
  have hq:qqA ps fs[i]=true:=by simpa using hq
  rw[hq] at hc
  generalize fs[i]=a at *
  unfold qip
  simp -implicitDefEqProofs only[qaq,qad,qae,qaf,qao,qab,qah,aOp,opd,qai,qav,qag,qbh,qbg,aUn,qaE,qaj,qaF,qaW,qaS,qac,qay,qam,qaz,qaU,ren,renC,qbp,qbW,qca,qcf,qbc,qby,qaa,qal,qap,qak,List.map_cons,List.map_nil,List.flatMap_cons,List.flatMap_nil,List.length_cons,List.length_nil,List.append_nil,List.getElem?_cons_zero,List.take_succ_cons,List.take_nil,↓reduceIte,Bool.and_true,Bool.not_true,Bool.false_eq_true,decide_true,decide_false,and_self,Nat.le_refl,Nat.zero_add,Nat.reduceEqDiff,Int.toNat_natCast,Int.natCast_nonneg,qau,qaQ,qa4,qb0,qar,h1,h2,h3,hc,qaJ L hp,hp]
 ·intro i hi hq
  obtain⟨h1,h2,h3⟩:=qbE qaP fs hfs i hi
  have hc:=qkr hL hC.f181 hC.f151 ps hps fs[i]
  have hq:qqA ps fs[i]=false:=by simpa using hq
  rw[hq] at hc
  generalize fs[i]=a at *
  unfold qip
  simp -implicitDefEqProofs only[qaq,qad,qae,qaf,qao,qax,qab,qah,aOp,opd,qai,qav,qag,qbh,qbg,aUn,qaE,qaj,qaF,qaW,gcE,qaS,qac,qay,qam,qaz,qaU,ren,renC,qbp,qbW,qca,qcf,qbc,qby,qaa,qal,qap,qak,List.map_cons,List.map_nil,List.flatMap_cons,List.flatMap_nil,List.length_cons,List.length_nil,List.append_nil,List.getElem?_cons_zero,List.take_succ_cons,List.take_nil,↓reduceIte,Bool.and_true,Bool.not_false,Bool.false_eq_true,decide_true,decide_false,and_self,Nat.le_refl,Nat.zero_add,Nat.reduceEqDiff,Int.toNat_natCast,Int.natCast_nonneg,qau,qaQ,qa4,qb0,qar,h1,h2,h3,hc,qaJ L hp,hp]
 ·have h0:=qbF fs.length
  unfold qip
  simp -implicitDefEqProofs only[qad,qae,qaf,qbl,qab,qah,aOp,opd,qai,qav,qag,qbh,qbg,qaj,gcE,qaS,qac,qay,qam,qaz,qaU,ren,renC,qbp,qbW,qca,qcf,qb1,List.map_cons,List.map_nil,List.flatMap_cons,List.flatMap_nil,List.length_cons,List.length_nil,List.append_nil,List.take_succ_cons,List.take_nil,↓reduceIte,Bool.false_eq_true,decide_false,Nat.le_refl,Nat.zero_add,Nat.reduceEqDiff,qau,qaQ,h0]
theorem qvq (e:List CExpr) (hl:e.length<2 ^ 30) (hf:∀ x∈e,NodeFit x) (ps:List Int) (hps:ps.length<2 ^ 30) (flat:Bool) (h:Heap) :
  pcall L 165 [.list (e.map qaH) none,.list (ps.map qaP) none,.bool flat] h=some (.val (.int .i64 (qiV e ps flat)),h):=by
 have hL:=hC.plain
 have hp:=hL.pure
 have hdE:=qa3 e
 refine qbH hL hC.f165 rfl ?_ h
 have htree:=qxr hL hC.f190 e hf hl
 unfold qiV
 by_cases ht:qfz e=0
 ·have htz:=(qfw e).1 ht
  obtain⟨hT,hn,hg⟩:=htz
  have hne:e≠[]:=fun h=>by have:=hT.pos;rw[h] at this;simp at this
  have hl0:=qvo hC e hl hf hT.ahead ps flat
  simp only[Int.natCast_zero] at hl0
  rw[if_neg (fun h=>h ht)]
  rw[ht] at htree
  by_cases hz:qcE (e.map fun x=>qcM flat (qgD e x))=0
  ·rw[if_pos hz] at hl0
   rw[if_neg (fun h=>h hz)]
   have hall:=(qd9 _ e).1 hz
   have herr:∀ x∈e,qoQ (qgD e x)=0:=by
    intro x hx
    have:=hall x hx
    unfold qcM at this
    split at this
    ·cases this
    ·exact this
   have hb:∀ x∈e,qqd x:=by
    intro x hx
    have:=qpF (herr x hx) (by unfold qgD;rw[List.length_map];have:=qr4 e hT x hx;omega)
    unfold qqd
    unfold qgD at this
    dsimp only at this
    omega
   have htw:=quY hL hC.f232 hC.f195 e hl hf hb ps hps
   cases hw:qjh e ps with
   | true =>
     rw[hw] at htw
     rw[if_pos rfl]
     unfold fn165
     simp -implicitDefEqProofs only[qaq,qad,qae,qaf,qax,qab,qah,aOp,opd,qai,qan,qav,qag,qbh,qco,qbg,qaj,qaF,leaf,qbu,qaR,qas,qaB,qaI,qaL,qaS,qac,qay,qam,qaz,qaU,ren,renC,qbp,qbW,qca,qcf,qbc,qbA,qba,qaa,qbI,qal,qaN,qap,qak,beq_self_eq_true,Option.getD_some,List.map_cons,List.map_nil,List.flatMap_cons,List.flatMap_nil,List.length_cons,List.length_nil,List.length_map,List.nil_append,List.append_nil,List.getElem?_cons_zero,List.getElem?_cons_succ,List.set_cons_zero,List.take_succ_cons,List.take_nil,List.all_cons,List.all_nil,↓reduceIte,Bool.and_true,Bool.not_true,Bool.false_eq_true,false_and,decide_false,and_self,Nat.le_refl,reduceCtorEq,Nat.zero_add,Nat.reduceEqDiff,Nat.reduceLT,qb6,qck,qcJ,qdp,frz,frzC,qjV,qa4,qaD,qar,htree,hl0,htw,hdE,qaJ L hp,hp,bne]
   | false =>
     rw[hw] at htw
     rw[if_neg (by decide)]
     have hgrow:=fun h=>hC.grow e h hl hf hT hg
     have hfit:TFit (qb2 e):=qsV e hT.ahead hf hb _ (by have:=hT.pos;omega)
     have hsz:=qf0 e hT
     have hfl:=qpI (qb2 e) ([],[])
     rw[List.length_nil,Nat.zero_add,hsz] at hfl
     have hfree:=qrQ hL hC.prims hC.f236 hC.f196 hC.f167 (qb2 e) hfit (by omega) (by omega)
     have hfo:(qeL (qb2 e)).length<2 ^ 30:=by
      unfold qeL qdh
      rw[qfu,List.length_map]
      omega
     have hl1:=qvp hC ps (qeL (qb2 e)) hps hfo
     simp only[Int.natCast_zero] at hl1
     generalize qeL (qb2 e)=fs at *
     obtain⟨tc,htc,hdt⟩:=qc0 (qb2 e)
     rw[htc] at hgrow hfree
     cases hx:fs.any fun n => !qqA ps n with
     | true =>
       simp only[hx,if_true] at hl1
       rw[if_pos rfl]
       unfold fn165
       simp -implicitDefEqProofs only[qaq,qad,qae,qaf,qab,qah,aOp,opd,qai,qan,qav,qag,qbh,qco,qbg,qaj,qaF,leaf,qbu,qaR,qas,qaB,qaI,qaL,qaS,qac,qay,qam,qaz,qaU,ren,renC,qbp,qbW,qca,qcf,qbc,qbA,qbS,qba,qaa,qbI,qal,qaN,qap,qak,beq_self_eq_true,Option.getD_some,List.map_cons,List.map_nil,List.flatMap_cons,List.flatMap_nil,List.length_cons,List.length_nil,List.length_map,List.nil_append,List.append_nil,List.getElem?_cons_zero,List.getElem?_cons_succ,List.set_cons_zero,List.take_succ_cons,List.take_nil,List.all_cons,List.all_nil,↓reduceIte,Bool.and_true,Bool.not_true,Bool.false_eq_true,false_and,decide_false,and_self,Nat.le_refl,reduceCtorEq,Nat.zero_add,Nat.reduceEqDiff,Nat.reduceLT,qaQ,qb6,qck,qcJ,qdp,frz,frzC,qjV,qa4,qaD,qar,htree,hl0,htw,hgrow,hfree,hl1,hdE,hdt,qbS,qaJ L hp,hp,bne]
     | false =>
       simp only[hx,Bool.false_eq_true,if_false] at hl1
       rw[if_neg (by decide)]
       unfold fn165
       simp -implicitDefEqProofs only[qaq,qad,qae,qaf,qax,qab,qah,aOp,opd,qai,qan,qav,qag,qbh,qco,qbg,qaj,qaF,leaf,qbu,qaR,qas,qaB,qaI,qaL,qaS,qac,qay,qam,qaz,qaU,ren,renC,qbp,qbW,qca,qcf,qbc,qbA,qbS,qba,qaa,qbI,qal,qaN,qap,qak,beq_self_eq_true,Option.getD_some,List.map_cons,List.map_nil,List.flatMap_cons,List.flatMap_nil,List.length_cons,List.length_nil,List.length_map,List.nil_append,List.append_nil,List.getElem?_cons_zero,List.getElem?_cons_succ,List.set_cons_zero,List.take_succ_cons,List.take_nil,List.all_cons,List.all_nil,↓reduceIte,Bool.and_true,Bool.not_true,Bool.false_eq_true,false_and,decide_false,and_self,Nat.le_refl,reduceCtorEq,Nat.zero_add,Nat.reduceEqDiff,Nat.reduceLT,qaQ,qb6,qck,qcJ,qdp,frz,frzC,qjV,qa4,qaD,qar,htree,hl0,htw,hgrow,hfree,hl1,hdE,hdt,qbS,qaJ L hp,hp,bne]
  ·rw[if_neg hz] at hl0
   rw[if_pos hz]
   generalize qcE (e.map fun x=>qcM flat (qgD e x))=r at *
   unfold fn165
   simp -implicitDefEqProofs only[qaq,qad,qae,qaf,qab,qah,aOp,opd,qai,qan,qav,qag,qbh,qco,qbg,qaj,qaF,leaf,qbu,qaR,qas,qaB,qaI,qaL,qaS,qac,qay,qam,qaz,qaU,ren,renC,qbp,qbW,qca,qcf,qbc,qbA,qba,qaa,qbI,qal,qaN,qap,qak,beq_self_eq_true,Option.getD_some,List.map_cons,List.map_nil,List.flatMap_cons,List.flatMap_nil,List.length_cons,List.length_nil,List.length_map,List.nil_append,List.append_nil,List.getElem?_cons_zero,List.getElem?_cons_succ,List.set_cons_zero,List.take_succ_cons,List.take_nil,List.all_cons,List.all_nil,↓reduceIte,Bool.and_true,Bool.not_true,Bool.false_eq_true,false_and,decide_false,and_self,Nat.le_refl,reduceCtorEq,Nat.zero_add,Nat.reduceEqDiff,Nat.reduceLT,qb6,qck,qcJ,qdp,frz,frzC,qjV,qa4,qaD,qar,htree,hl0,hdE,qaJ L hp,hp,bne]
 ·have hz':(qfz e==0)=false:=by simpa using ht
  rw[if_pos ht]
  unfold fn165
  simp -implicitDefEqProofs only[qad,qae,qaf,qax,qab,qah,aOp,opd,qai,qan,qag,qbh,qbg,qaj,qaF,qbu,qaR,qas,qaB,qaI,qbc,qbA,qaa,qap,qak,Option.getD_some,List.map_cons,List.map_nil,List.length_nil,List.nil_append,List.getElem?_cons_zero,↓reduceIte,Bool.and_true,Bool.not_false,Bool.false_eq_true,and_self,Nat.reduceEqDiff,qa4,qaD,htree,hz',hdE,qaJ L hp,hp,bne]
def qbi (e:List CExpr):Int:=qiV e [] false
theorem qfp (e:List CExpr) (hl:e.length<2 ^ 30) (hf:∀ x∈e,NodeFit x) (h:Heap):pcall L 134 [.list (e.map qaH) none] h=some (.val (.int .i64 (qbi e)),h):=by
 have hL:=hC.plain
 have hp:=hL.pure
 have hdE:=qa3 e
 refine qbH hL hC.f134 rfl ?_ h
 have hb:=qvq hC e hl hf [] (by simp) false
 unfold qbi fn134
 simp -implicitDefEqProofs only[qad,qae,qax,qab,qah,aOp,opd,qai,qan,qaR,qas,qaB,qaI,qbc,qg6,qaa,qbI,qap,qak,Option.getD_some,List.map_cons,List.map_nil,List.getElem?_cons_zero,↓reduceIte,Bool.and_true,and_self,reduceCtorEq,qa4,hdE,qaJ L hp,hp]
 simp only[List.map_nil] at hb
 simp -implicitDefEqProofs only[qai,qbA,↓reduceIte,qaD,hb]
end
theorem qgy:∀ (a b:List CTree),qbd (a++b)=qbd a+qbd b
 | [],b=>by rw[List.nil_append,qbd];omega
 | x::a,b=>by rw[List.cons_append,qbd,qbd,qgy a b];omega
theorem qh1:∀ (ks:List CTree) (k:CTree) (b:Nat),qbm (ks++[k]) b=qbm ks b++qdU k (b+qbd ks)
 | [],k,b=>by rw[List.nil_append,qbm,qbm,qbm,qbd,List.append_nil];rfl
 | x :: ks,k,b => by
   rw[List.cons_append,qbm,qbm,qh1 ks k,qbd,List.append_assoc,Nat.add_assoc]
theorem qg2:∀ (ks:List CTree) (k:CTree) (b:Nat),qbn (ks++[k]) b=qbn ks b++[((b+qbd ks+qbR k-1:Nat):Int)]
 | [],k,b=>by rw[List.nil_append,qbn,qbn,qbn,qbd];rfl
 | x :: ks,k,b => by
   rw[List.cons_append,qbn,qbn,qg2 ks k,qbd]
   rw[show b+qbR x+qbd ks+qbR k-1=b+(qbR x+qbd ks)+qbR k-1 by omega]
   rfl
theorem qfh:∀ (ks:List CTree) (b:Nat),(qbn ks b).length=ks.length
 | [],b=>rfl
 | k::ks,b=>by rw[qbn,List.length_cons,qfh ks];rfl
theorem qlb (ks:List CTree) (j:Nat) (hj:j<ks.length):qbd (ks.take (j+1))=qbd (ks.take j)+qbR ks[j]:=by
 rw[List.take_succ_eq_append_getElem hj,qgy,qbd,qbd]
 omega
theorem qok (ks:List CTree) (j:Nat):qbd (ks.take j)≤qbd ks:=by
 conv=>rhs;rw[← List.take_append_drop j ks,qgy]
 omega
section
variable {L:Lib} (hL:Plain L)
include hL
def hB (op n:Int) (binds:List Int) (outs:List CExpr) (ids:List Int) (j:Nat):Heap :=
 if j=0 then [.box [.func 187 [] [.ptr (some (0,0)),.ptr (some (1,0))]],.box [.list [] (some none)],.box [.int .i64 op,.int .i64 n,.list (binds.map qaP) none,.list [] (some none),.list [] (some none)]]
 else [.box [.func 187 [] [.ptr (some (0,0)),.ptr (some (1,0))]],.box [.list (outs.map qaH) (some (some 3))],.box [.int .i64 op,.int .i64 n,.list (binds.map qaP) none,.list (ids.map qaP) (some (some 4)),.list [] (some none)],.tail outs.length 5,.tail j 1]
end
end Go.Abs
