/-
  PARTS OF A PROOF, joined: an abstract machine for quiet code, its evaluation, and what the seat's functions answer on it. Conditions: none.
-/
import Derived.Test.YtjbgooldkkbdmaaDoorN
import Derived.Test.YtjbgooldkkbdmaaDoorC
set_option linter.unusedVariables false
set_option linter.unusedSimpArgs false
set_option maxRecDepth 100000
set_option maxHeartbeats 4000000
namespace Go.Abs
theorem qii:∀ (as:List CAlt) (b:Int),b≤qa1 b as∧∀ a∈as,(a.binds.length:Int)≤qa1 b as
 | [],b=>⟨Int.le_refl _,by simp⟩
 | a :: as,b => by
   obtain⟨h1,h2⟩:=qii as (max b (a.binds.length:Int))
   have e:qa1 b (a::as)=qa1 (max b (a.binds.length:Int)) as:=rfl
   rw[e]
   refine⟨by omega,fun x hx=>?_⟩
   rcases List.mem_cons.1 hx with rfl | hx
   ·omega
   ·exact h2 x hx
theorem qgv {op n:Int} {binds:List Int} {kl:Nat} {as:List CAlt} (h:qcu op n binds kl as=0):qa1 binds.length as≤16:=by
 unfold qcu at h
 split at h
 ·cases h
 ·split at h
  ·cases h
  ·split at h
   ·cases h
   ·split at h
    ·cases h
    ·rename_i ht
     unfold qi3 at ht
     simp only[Bool.or_eq_true,decide_eq_true_eq,not_or] at ht
     have:=ht.1.1.1
     split at this<;>omega
theorem qkd {op n:Int} {bl kl:Nat} {as:List CAlt} (h:qbS op n bl kl as=true):as.length=0∨kl=as.length+1:=by
 unfold qbS at h
 split at h
 ·simp only[Bool.and_eq_true] at h
  have:=h.1.1
  unfold qjw at this
  simp only[Bool.and_eq_true,beq_iff_eq] at this
  right
  omega
 ·split at h
  ·cases h
  ·unfold qen at h
   simp only[Bool.and_eq_true,beq_iff_eq] at h
   left
   omega
theorem qjL (as:List CAlt) (h:∀ a∈as,a.binds.length≤16):(as.flatMap (·.binds)).length≤16*as.length:=by
 induction as with
 | nil=>simp
 | cons a as ih =>
   rw[List.flatMap_cons,List.length_append,List.length_cons]
   have:=h a (by simp)
   have:=ih fun x hx=>h x (by simp[hx])
   omega
theorem qn0 {l:Lab} (h:qpv l=0) (hk:l.kops.length≤4096):(l.binds++l.alts.flatMap (·.binds)).length≤16+16*4096:=by
 unfold qpv at h
 split at h
 ·cases h
 ·rename_i hs
  have hs:qbS l.op l.n l.binds.length l.kops.length l.alts=true:=by simpa using hs
  split at h
  ·rename_i hr;exact absurd h hr
  ·rename_i hr
   have hr:qcu l.op l.n l.binds l.kops.length l.alts=0:=Classical.not_not.1 hr
   have hf:=qgv hr
   obtain⟨h1,h2⟩:=qii l.alts (l.binds.length:Int)
   have h3:=qjL l.alts fun a ha=>by have:=h2 a ha;omega
   rw[List.length_append]
   rcases qkd hs with h4 | h4<;>omega
theorem qo4 (e:List CExpr) (h:TreeL e):(e.flatMap (·.kids)).length+1=e.length:=by
 have h1:=(qeU e h).length_eq
 rw[List.length_range,List.length_cons] at h1
 have h2:((List.range e.length).flatMap (qbj e)).length=(e.flatMap (·.kids)).length:=by
  have h3:e=(List.range e.length).map fun i=>(e[i]?).getD ⟨0,0,[],[],[]⟩:=by
   refine List.ext_getElem (by simp) fun i h1 h2=>?_
   simp[h1]
  conv=>rhs;rw[h3,List.flatMap_map]
  rw[List.length_flatMap,List.length_flatMap]
  congr 1
  refine List.map_congr_left fun i hi=>?_
  have hi:=List.mem_range.1 hi
  unfold qbj
  simp[hi]
 omega
theorem qqo (e:List CExpr) (h:TreeL e) (x:CExpr) (hx:x∈e):x.kids.length≤e.length:=by
 have h1:=qo4 e h
 obtain⟨s,t,rfl⟩:=List.append_of_mem hx
 rw[List.flatMap_append,List.flatMap_cons,List.length_append,List.length_append] at h1
 omega
theorem qsw {β:Type} (v:Int) (b:β) (m:IM β):(qhi v b m).length≤m.length+1:=by
 have hins:∀ m:IM β,(qkF v b m).length=m.length+1:=by
  intro m
  induction m with
  | nil=>rfl
  | cons p m ih=>unfold qkF;split<;>simp[ih]
 unfold qhi
 split
 ·unfold qms;simp
 ·rw[hins];omega
mutual
theorem qn3:∀ (t:CTree) (s:FS),(qdB t s).2.length≤s.2.length+qez t
 | .mk op n binds kids alts,s => by
   rw[qdB,qez]
   have:=qlD op binds alts kids 0 (qdv op n s)
   have h2:(qdv op n s).2.length≤s.2.length+1:=by
    unfold qdv
    split
    ·exact qsw _ _ _
    ·omega
   omega
theorem qlD (op:Int) (binds:List Int) (alts:List CAlt):∀ (ks:List CTree) (k:Nat) (s:FS),(qdL op binds alts ks k s).2.length≤s.2.length+qbl ks
 | [],k,s=>by rw[qdL];omega
 | kid :: ks,k,s => by
   rw[qdL,qbl]
   have h1:=qlD op binds alts ks (k+1) ((qbo op binds alts k).foldl (qgq (-1)) (qdB kid ((qbo op binds alts k).foldl (qgq 1) s.1,s.2)).1,(qdB kid ((qbo op binds alts k).foldl (qgq 1) s.1,s.2)).2)
   have h2:=qn3 kid ((qbo op binds alts k).foldl (qgq 1) s.1,s.2)
   dsimp only at h1 h2
   omega
end
theorem qre (e:List CExpr) (hk:qhr e) (hf:∀ x∈e,NodeFit x) (hb:∀ x∈e,qrt x):∀ i,i<e.length→TFit (qdz e i):=by
 intro i
 induction i using Nat.strongRecOn with
 | ind i ih =>
   intro hi
   rw[qeZ e hk i hi]
   have hx:=hf e[i] (List.getElem_mem hi)
   refine .mk _ _ _ _ _ (hb e[i] (List.getElem_mem hi)) (by rw[List.length_map];exact hx.kids) hx.alts ?_
   intro k hkm
   obtain⟨q,hq,rfl⟩:=List.mem_map.1 hkm
   obtain⟨q0,q1⟩:=hk i hi q hq
   exact ih q.toNat (by omega) (by omega)
def qu6 (flat:Bool) (op:Int):Bool:=(flat && qhy op) || (!flat && qhz op)
def qb9 (flat:Bool) (l:Lab):Int:=if qu6 flat l.op=true then 3 else qpv l
def qkt (e:List CExpr) (ps:List Int) (flat:Bool):Int :=
 if qer e≠0 then qer e
 else if qbx (e.map fun x=>qb9 flat (qgz e x))≠0 then qbx (e.map fun x=>qb9 flat (qgz e x))
 else if qgZ e ps=true then 7
 else if ((qgj (qbO e)).any fun n => !qpw ps n)=true then 6 else 0
theorem qea {α:Type} (g:α→Int):∀ (l:List α),qbx (l.map g)=0↔∀ x∈l,g x=0
 | []=>by simp[qbx]
 | x :: l => by
   rw[List.map_cons,qbx]
   by_cases h:g x=0
   ·rw[if_pos h,qea g l]
    simp[h]
   ·rw[if_neg h]
    simp[h]
structure CLib (L:Lib):Prop where
 plain:Plain L
 prims:CPrims L qa9
 f134:L.fns 134=some fn134
 f151:L.fns 151=some fn151
 grow:∀ (e:List CExpr) (h:Heap),e.length<2 ^ 30→(∀ x∈e,NodeFit x)→TreeL e→hgt (qbO e)≤400→pcall L 160 [.list (e.map qal) none] h=some (.val (qay (qbO e)),h)
 f165:L.fns 165=some fn165
 f167:L.fns 167=some fn167
 f181:L.fns 181=some fn181
 f190:L.fns 190=some fn190
 f191:L.fns 191=some fn191
 f192:L.fns 192=some fn192
 f193:L.fns 193=some fn193
 f194:L.fns 194=some fn194
 f195:L.fns 195=some fn195
 f196:L.fns 196=some fn196
 f232:L.fns 232=some fn232
 f234:L.fns 234=some fn234
 f235:L.fns 235=some fn235
 f236:L.fns 236=some fn236
 f258:L.fns 258=some fn258
 f259:L.fns 259=some fn259
 f264:L.fns 264=some fn264
 f265:L.fns 265=some fn265
 f266:L.fns 266=some fn266
section
variable {L:Lib} (hC:CLib L)
include hC
theorem qs8 (e:List CExpr) (hl:e.length<2 ^ 30) (hf:∀ x∈e,NodeFit x) (hk:qhr e) (ps:List Int) (flat:Bool) :
  qbd L.pure (call L) 1 [1,2,3,18,19,20] [1,3,6] 0 qcM ⟨kt [1,2,3,18,19,20] [.list (ps.map qat) none,.bool flat,.vptr [.list (e.map qal) none] 0,.list (e.map qal) none,.int .i64 e.length,.int .i64 ((0:Nat):Int)],[.gone]⟩ =
  some (if qbx (e.map fun x=>qb9 flat (qgz e x))=0 then (.normal,⟨kt [1,3,6] [.list (ps.map qat) none,.vptr [.list (e.map qal) none] 0,.junk],[.gone]⟩)
   else (.ret,⟨kt [1,3,6] [.list (ps.map qat) none,.vptr [.list (e.map qal) none] 0,.int .i64 (qbx (e.map fun x=>qb9 flat (qgz e x)))],[.gone]⟩)):=by
 have hL:=hC.plain
 have hp:=hL.pure
 have hdE:=qaW e
 have hround:∀ (i:Nat) (hi:i<e.length),qbe L.pure (call L) 1 [1,2,3,18,19,20] [1,3,6] qcM ⟨kt [1,2,3,18,19,20] [.list (ps.map qat) none,.bool flat,.vptr [.list (e.map qal) none] 0,.list (e.map qal) none,.int .i64 e.length,.int .i64 i],[.gone]⟩ =
   some (if qb9 flat (qgz e e[i])=0 then (.normal,⟨kt [1,2,3,18,19,20] [.list (ps.map qat) none,.bool flat,.vptr [.list (e.map qal) none] 0,.list (e.map qal) none,.int .i64 e.length,.int .i64 ((i+1:Nat):Int)],[.gone]⟩)
    else (.ret,⟨kt [1,3,6] [.list (ps.map qat) none,.vptr [.list (e.map qal) none] 0,.int .i64 (qb9 flat (qgz e e[i]))],[.gone]⟩)):=by
  intro i hi
  obtain⟨h1,h2,h3⟩:=qaV qal e hl i hi
  have hn:=qul hL hC.f265 hC.f264 hC.f266 hC.f258 hC.f259 hC.f234 hC.f235 hC.f194 hC.f193 e e[i] (hf e[i] (List.getElem_mem hi)) (fun k hkm=>by have:=hk i hi k hkm;omega)
  have c1:=qm9 hL hC.f191 e[i].op
  have c2:=qnb hL hC.f192 e[i].op
  unfold qnj at hn
  unfold qb9
  have hop:(qgz e e[i]).op=e[i].op:=rfl
  rw[hop]
  generalize qgz e e[i]=lb at *
  generalize e[i]=x at *
  rw[qaL] at hn
  unfold qu6
  cases flat with
  | true =>
    cases hc:qhy x.op with
    | true =>
      rw[hc] at c1
      unfold qcM
      simp -implicitDefEqProofs only[ev_,aOp,opd,qaa,qau,qaC,qaB,qae,qab,qag,qah,qaQ,qaH,qak,leaf,qas,gcE,qan,ren,renC,qaN,qa3,↓reduceIte,Nat.reduceEqDiff,Nat.reduceAdd,Nat.reduceLeDiff,Int.reduceEq,qaA,qaL,qac,h1,h2,h3,c1,hdE,qar L hp,hp]
    | false =>
      rw[hc] at c1
      by_cases hz:qpv lb=0
      ·rw[hz] at hn
       unfold qcM
       simp -implicitDefEqProofs only[ev_,aOp,opd,qaa,qau,qaC,qaB,aUn,qae,qab,qag,qah,qaQ,qaH,qak,leaf,qas,qan,ren,renC,qaN,qa3,↓reduceIte,Nat.reduceEqDiff,Nat.reduceAdd,Nat.reduceLeDiff,qaA,qaL,qac,qaf,h1,h2,h3,c1,hn,hz,hdE,qar L hp,hp,bne]
      ·have hz':(qpv lb==0)=false:=by simpa using hz
       unfold qcM
       simp -implicitDefEqProofs only[ev_,aOp,opd,qaa,qau,qaC,qaB,aUn,qae,qab,qag,qah,qaQ,qaH,qak,leaf,qas,gcE,qan,ren,renC,qaN,qa3,↓reduceIte,Nat.reduceEqDiff,Nat.reduceAdd,Nat.reduceLeDiff,qaA,qaL,qac,qaf,h1,h2,h3,c1,hn,hz,hz',hdE,qar L hp,hp,bne]
  | false =>
    cases hc:qhz x.op with
    | true =>
      rw[hc] at c2
      unfold qcM
      simp -implicitDefEqProofs only[ev_,aOp,opd,qaa,qau,qaC,qaB,aUn,qae,qab,qag,qah,qaQ,qaH,qak,leaf,qas,gcE,qan,ren,renC,qaN,qa3,↓reduceIte,Nat.reduceEqDiff,Nat.reduceAdd,Nat.reduceLeDiff,Int.reduceEq,qaA,qaL,qac,h1,h2,h3,c2,hdE,qar L hp,hp]
    | false =>
      rw[hc] at c2
      by_cases hz:qpv lb=0
      ·rw[hz] at hn
       unfold qcM
       simp -implicitDefEqProofs only[ev_,aOp,opd,qaa,qau,qaC,qaB,aUn,qae,qab,qag,qah,qaQ,qaH,qak,leaf,qas,qan,ren,renC,qaN,qa3,↓reduceIte,Nat.reduceEqDiff,Nat.reduceAdd,Nat.reduceLeDiff,qaA,qaL,qac,qaf,h1,h2,h3,c2,hn,hz,hdE,qar L hp,hp,bne]
      ·have hz':(qpv lb==0)=false:=by simpa using hz
       unfold qcM
       simp -implicitDefEqProofs only[ev_,aOp,opd,qaa,qau,qaC,qaB,aUn,qae,qab,qag,qah,qaQ,qaH,qak,leaf,qas,gcE,qan,ren,renC,qaN,qa3,↓reduceIte,Nat.reduceEqDiff,Nat.reduceAdd,Nat.reduceLeDiff,qaA,qaL,qac,qaf,h1,h2,h3,c2,hn,hz,hz',hdE,qar L hp,hp,bne]
 refine qqv e (fun x=>qb9 flat (qgz e x)) (fun i=>⟨kt [1,2,3,18,19,20] [.list (ps.map qat) none,.bool flat,.vptr [.list (e.map qal) none] 0,.list (e.map qal) none,.int .i64 e.length,.int .i64 i],[.gone]⟩) _
  (fun r=>⟨kt [1,3,6] [.list (ps.map qat) none,.vptr [.list (e.map qal) none] 0,.int .i64 r],[.gone]⟩) ?_ ?_ ?_
 ·intro i hi hz
  rw[hround i hi,if_pos hz]
 ·intro i hi hz
  rw[hround i hi,if_neg hz]
 ·have h0:=qa0 e.length
  unfold qcM
  simp -implicitDefEqProofs only[ev_,aOp,opd,qaa,qaC,qaB,qab,gcE,qan,ren,renC,qaN,qa3,↓reduceIte,Nat.reduceEqDiff,qac,h0,hdE]
theorem qs9 (ps fs:List Int) (hps:ps.length<2 ^ 30) (hfs:fs.length<2 ^ 30) :
  qbd L.pure (call L) 1 [1,51,52,53] [6] 2 qgc ⟨kt [1,51,52,53] [.list (ps.map qat) none,.list (fs.map qat) none,.int .i64 fs.length,.int .i64 ((0:Nat):Int)],[.gone]⟩ =
  some (if (fs.any fun n => !qpw ps n)=true then (.ret,⟨kt [6] [.int .i64 6],[.gone]⟩) else (.normal,⟨kt [6] [.junk],[.gone]⟩)):=by
 have hL:=hC.plain
 have hp:=hL.pure
 refine qiF fs (fun n => !qpw ps n) (fun i=>⟨kt [1,51,52,53] [.list (ps.map qat) none,.list (fs.map qat) none,.int .i64 fs.length,.int .i64 i],[.gone]⟩) _ _ ?_ ?_ ?_
 ·intro i hi hq
  obtain⟨h1,h2,h3⟩:=qaV qat fs hfs i hi
  have hc:=qif hL hC.f181 hC.f151 ps hps fs[i]
  have hq:qpw ps fs[i]=true:=by simpa using hq
  rw[hq] at hc
  generalize fs[i]=a at *
  unfold qgc
  simp -implicitDefEqProofs only[ev_,aOp,opd,qaa,qaC,qaB,aUn,qae,qab,qah,qan,ren,renC,qaN,qa3,↓reduceIte,Nat.reduceEqDiff,qaA,qa7,qac,h1,h2,h3,hc,qar L hp,hp]
 ·intro i hi hq
  obtain⟨h1,h2,h3⟩:=qaV qat fs hfs i hi
  have hc:=qif hL hC.f181 hC.f151 ps hps fs[i]
  have hq:qpw ps fs[i]=false:=by simpa using hq
  rw[hq] at hc
  generalize fs[i]=a at *
  unfold qgc
  simp -implicitDefEqProofs only[ev_,aOp,opd,qaa,qaC,qaB,aUn,qae,qab,qah,gcE,qan,ren,renC,qaN,qa3,↓reduceIte,Nat.reduceEqDiff,qaA,qa7,qac,h1,h2,h3,hc,qar L hp,hp]
 ·have h0:=qa0 fs.length
  unfold qgc
  simp -implicitDefEqProofs only[ev_,aOp,opd,qaa,qaC,qaB,qab,gcE,qan,ren,renC,qaN,qa3,↓reduceIte,Nat.reduceEqDiff,h0]
theorem qta (e:List CExpr) (hl:e.length<2 ^ 30) (hf:∀ x∈e,NodeFit x) (ps:List Int) (hps:ps.length<2 ^ 30) (flat:Bool) (h:Heap) :
  pcall L 165 [.list (e.map qal) none,.list (ps.map qat) none,.bool flat] h=some (.val (.int .i64 (qkt e ps flat)),h):=by
 have hL:=hC.plain
 have hp:=hL.pure
 have hdE:=qaW e
 refine qa5 hL hC.f165 rfl ?_ h
 have htree:=qux hL hC.f190 e hf hl
 unfold qkt
 by_cases ht:qer e=0
 ·have htz:=(qhn e).1 ht
  obtain⟨hT,hn,hg⟩:=htz
  have hne:e≠[]:=fun h=>by have:=hT.pos;rw[h] at this;simp at this
  have hl0:=qs8 hC e hl hf hT.ahead ps flat
  simp only[Int.natCast_zero] at hl0
  rw[if_neg (fun h=>h ht)]
  rw[ht] at htree
  by_cases hz:qbx (e.map fun x=>qb9 flat (qgz e x))=0
  ·rw[if_pos hz] at hl0
   rw[if_neg (fun h=>h hz)]
   have hall:=(qea _ e).1 hz
   have herr:∀ x∈e,qpv (qgz e x)=0:=by
    intro x hx
    have:=hall x hx
    unfold qb9 at this
    split at this
    ·cases this
    ·exact this
   have hb:∀ x∈e,qrt x:=by
    intro x hx
    have:=qn0 (herr x hx) (by unfold qgz;rw[List.length_map];have:=qqo e hT x hx;omega)
    unfold qrt
    unfold qgz at this
    dsimp only at this
    omega
   have htw:=qsH hL hC.f232 hC.f195 e hl hf hb ps hps
   cases hw:qgZ e ps with
   | true =>
     rw[hw] at htw
     rw[if_pos rfl]
     unfold fn165
     simp -implicitDefEqProofs only[ev_,aOp,opd,qaa,qaC,qbu,qaB,qab,qah,leaf,qaw,qad,qai,qam,qan,ren,renC,qaN,qa3,↓reduceIte,reduceCtorEq,Nat.reduceEqDiff,Nat.reduceLT,frz,frzC,qhH,qaA,qaj,qac,htree,hl0,htw,hdE,qar L hp,hp,bne]
   | false =>
     rw[hw] at htw
     rw[if_neg (by decide)]
     have hgrow:=fun h=>hC.grow e h hl hf hT hg
     have hfit:TFit (qbO e):=qre e hT.ahead hf hb _ (by have:=hT.pos;omega)
     have hsz:=qgY e hT
     have hfl:=qn3 (qbO e) ([],[])
     rw[List.length_nil,Nat.zero_add,hsz] at hfl
     have hfree:=qqa hL hC.prims hC.f236 hC.f196 hC.f167 (qbO e) hfit (by omega) (by omega)
     have hfo:(qgj (qbO e)).length<2 ^ 30:=by
      unfold qgj qdP
      rw[qdx,List.length_map]
      omega
     have hl1:=qs9 hC ps (qgj (qbO e)) hps hfo
     simp only[Int.natCast_zero] at hl1
     generalize qgj (qbO e)=fs at *
     obtain⟨tc,htc,hdt⟩:=qds (qbO e)
     rw[htc] at hgrow hfree
     cases hx:fs.any fun n => !qpw ps n with
     | true =>
       simp only[hx,if_true] at hl1
       rw[if_pos rfl]
       unfold fn165
       simp -implicitDefEqProofs only[ev_,aOp,opd,qaa,qaC,qbu,qaB,qab,qah,leaf,qaw,qad,qai,qam,qan,ren,renC,qaN,qa3,↓reduceIte,reduceCtorEq,Nat.reduceEqDiff,Nat.reduceLT,frz,frzC,qhH,qaA,qaj,qac,htree,hl0,htw,hgrow,hfree,hl1,hdE,hdt,qgy,qar L hp,hp,bne]
     | false =>
       simp only[hx,Bool.false_eq_true,if_false] at hl1
       rw[if_neg (by decide)]
       unfold fn165
       simp -implicitDefEqProofs only[ev_,aOp,opd,qaa,qaC,qbu,qaB,qab,qah,leaf,qaw,qad,qai,qam,qan,ren,renC,qaN,qa3,↓reduceIte,reduceCtorEq,Nat.reduceEqDiff,Nat.reduceLT,frz,frzC,qhH,qaA,qaj,qac,htree,hl0,htw,hgrow,hfree,hl1,hdE,hdt,qgy,qar L hp,hp,bne]
  ·rw[if_neg hz] at hl0
   rw[if_pos hz]
   generalize qbx (e.map fun x=>qb9 flat (qgz e x))=r at *
   unfold fn165
   simp -implicitDefEqProofs only[ev_,aOp,opd,qaa,qaC,qbu,qaB,qab,qah,leaf,qaw,qad,qai,qam,qan,ren,renC,qaN,qa3,↓reduceIte,reduceCtorEq,Nat.reduceEqDiff,Nat.reduceLT,frz,frzC,qhH,qaA,qaj,qac,htree,hl0,hdE,qar L hp,hp,bne]
 ·have hz':(qer e==0)=false:=by simpa using ht
  rw[if_pos ht]
  unfold fn165
  simp -implicitDefEqProofs only[ev_,aOp,opd,qaa,qaC,qaB,qab,qah,qaw,qad,qai,qam,↓reduceIte,Nat.reduceEqDiff,qaA,qaj,htree,hz',hdE,qar L hp,hp,bne]
def qbw (e:List CExpr):Int:=qkt e [] false
theorem qrN (e:List CExpr) (hl:e.length<2 ^ 30) (hf:∀ x∈e,NodeFit x) (h:Heap):pcall L 134 [.list (e.map qal) none] h=some (.val (.int .i64 (qbw e)),h):=by
 have hL:=hC.plain
 have hp:=hL.pure
 have hdE:=qaW e
 refine qa5 hL hC.f134 rfl ?_ h
 have hb:=qta hC e hl hf [] (by simp) false
 unfold qbw fn134
 simp -implicitDefEqProofs only[ev_,aOp,opd,qaw,qad,qai,qam,↓reduceIte,reduceCtorEq,qaA,hdE,qar L hp,hp]
 simp only[List.map_nil] at hb
 simp -implicitDefEqProofs only[ev_,↓reduceIte,qaj,hb]
end
section
variable {L:Lib} (hL:Plain L)
include hL
def hB (op n:Int) (binds:List Int) (outs:List CExpr) (ids:List Int) (j:Nat):Heap :=
 if j=0 then [.box [.func 187 [] [.ptr (some (0,0)),.ptr (some (1,0))]],.box [.list [] (some none)],.box [.int .i64 op,.int .i64 n,.list (binds.map qat) none,.list [] (some none),.list [] (some none)]]
 else [.box [.func 187 [] [.ptr (some (0,0)),.ptr (some (1,0))]],.box [.list (outs.map qal) (some (some 3))],.box [.int .i64 op,.int .i64 n,.list (binds.map qat) none,.list (ids.map qat) (some (some 4)),.list [] (some none)],.tail outs.length 5,.tail j 1]
end
end Go.Abs
