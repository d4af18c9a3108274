/-
  PARTS OF A PROOF, joined: an abstract machine for quiet code, its evaluation, and what the seat's functions answer on it. Conditions: none.
-/
import Derived.Test.YtpchghpipgpkfaaDoorN
import Derived.Test.YtpchghpipgpkfaaDoorC
set_option linter.unusedVariables false
set_option linter.unusedSimpArgs false
set_option maxRecDepth 100000
set_option maxHeartbeats 4000000
namespace Go.Abs
theorem qhg:∀ (as:List CAlt) (b:Int),b≤qbk b as∧∀ a∈as,(a.binds.length:Int)≤qbk b as
 | [],b=>⟨Int.le_refl _,by simp⟩
 | a :: as,b => by
   obtain⟨h1,h2⟩:=qhg as (max b (a.binds.length:Int))
   have e:qbk b (a::as)=qbk (max b (a.binds.length:Int)) as:=rfl
   rw[e]
   refine⟨by omega,fun x hx=>?_⟩
   rcases List.mem_cons.1 hx with rfl | hx
   ·omega
   ·exact h2 x hx
theorem qe8 {op n:Int} {binds:List Int} {kl:Nat} {as:List CAlt} (h:qcv op n binds kl as=0):qbk binds.length as≤16:=by
 unfold qcv at h
 split at h
 ·cases h
 ·split at h
  ·cases h
  ·split at h
   ·cases h
   ·split at h
    ·cases h
    ·rename_i ht
     unfold qkJ at ht
     simp only[Bool.or_eq_true,decide_eq_true_eq,not_or] at ht
     have:=ht.1.1.1
     split at this<;>omega
theorem qmd {op n:Int} {bl kl:Nat} {as:List CAlt} (h:qba op n bl kl as=true):as.length=0∨kl=as.length+1:=by
 unfold qba at h
 split at h
 ·simp only[Bool.and_eq_true] at h
  have:=h.1.1
  unfold qju at this
  simp only[Bool.and_eq_true,beq_iff_eq] at this
  right
  omega
 ·split at h
  ·cases h
  ·unfold qbL at h
   simp only[Bool.and_eq_true,beq_iff_eq] at h
   left
   omega
theorem qlB (as:List CAlt) (h:∀ a∈as,a.binds.length≤16):(as.flatMap (·.binds)).length≤16*as.length:=by
 induction as with
 | nil=>simp
 | cons a as ih =>
   rw[List.flatMap_cons,List.length_append,List.length_cons]
   have:=h a (by simp)
   have:=ih fun x hx=>h x (by simp[hx])
   omega
theorem qqH {l:Lab} (h:qrV l=0) (hk:l.kops.length≤4096):(l.binds++l.alts.flatMap (·.binds)).length≤16+16*4096:=by
 unfold qrV at h
 split at h
 ·cases h
 ·rename_i hs
  have hs:qba l.op l.n l.binds.length l.kops.length l.alts=true:=by simpa using hs
  split at h
  ·rename_i hr;exact absurd h hr
  ·rename_i hr
   have hr:qcv l.op l.n l.binds l.kops.length l.alts=0:=Classical.not_not.1 hr
   have hf:=qe8 hr
   obtain⟨h1,h2⟩:=qhg l.alts (l.binds.length:Int)
   have h3:=qlB l.alts fun a ha=>by have:=h2 a ha;omega
   rw[List.length_append]
   rcases qmd hs with h4 | h4<;>omega
theorem qr2 (e:List CExpr) (h:TreeL e):(e.flatMap (·.kids)).length+1=e.length:=by
 have h1:=(qd9 e h).length_eq
 rw[List.length_range,List.length_cons] at h1
 have h2:((List.range e.length).flatMap (qbl e)).length=(e.flatMap (·.kids)).length:=by
  have h3:e=(List.range e.length).map fun i=>(e[i]?).getD ⟨0,0,[],[],[]⟩:=by
   refine List.ext_getElem (by simp) fun i h1 h2=>?_
   simp[h1]
  conv=>rhs;rw[h3,List.flatMap_map]
  rw[List.length_flatMap,List.length_flatMap]
  congr 1
  refine List.map_congr_left fun i hi=>?_
  have hi:=List.mem_range.1 hi
  unfold qbl
  simp[hi]
 omega
theorem qtE (e:List CExpr) (h:TreeL e) (x:CExpr) (hx:x∈e):x.kids.length≤e.length:=by
 have h1:=qr2 e h
 obtain⟨s,t,rfl⟩:=List.append_of_mem hx
 rw[List.flatMap_append,List.flatMap_cons,List.length_append,List.length_append] at h1
 omega
theorem qv9 {β:Type} (v:Int) (b:β) (m:IM β):(qjf v b m).length≤m.length+1:=by
 have hins:∀ m:IM β,(qmI v b m).length=m.length+1:=by
  intro m
  induction m with
  | nil=>rfl
  | cons p m ih=>unfold qmI;split<;>simp[ih]
 unfold qjf
 split
 ·unfold qoT;simp
 ·rw[hins];omega
mutual
theorem qqK:∀ (t:CTree) (s:FS),(qee t s).2.length≤s.2.length+qaR t
 | .mk op n binds kids alts,s => by
   rw[qee,qaR]
   have:=qnP op binds alts kids 0 (qd6 op n s)
   have h2:(qd6 op n s).2.length≤s.2.length+1:=by
    unfold qd6
    split
    ·exact qv9 _ _ _
    ·omega
   omega
theorem qnP (op:Int) (binds:List Int) (alts:List CAlt):∀ (ks:List CTree) (k:Nat) (s:FS),(qep op binds alts ks k s).2.length≤s.2.length+qaC ks
 | [],k,s=>by rw[qep];omega
 | kid :: ks,k,s => by
   rw[qep,qaC]
   have h1:=qnP op binds alts ks (k+1) ((qcD op binds alts k).foldl (qhD (-1)) (qee kid ((qcD op binds alts k).foldl (qhD 1) s.1,s.2)).1,(qee kid ((qcD op binds alts k).foldl (qhD 1) s.1,s.2)).2)
   have h2:=qqK kid ((qcD op binds alts k).foldl (qhD 1) s.1,s.2)
   dsimp only at h1 h2
   omega
end
theorem qqc (e:List CExpr) (hk:qdz e) (hf:∀ x∈e,NodeFit x) (hb:∀ x∈e,quW x):∀ i,i<e.length→TFit (qaW e i):=by
 intro i
 induction i using Nat.strongRecOn with
 | ind i ih =>
   intro hi
   rw[qc0 e hk i hi]
   have hx:=hf e[i] (List.getElem_mem hi)
   refine .mk _ _ _ _ _ (hb e[i] (List.getElem_mem hi)) (by rw[List.length_map];exact hx.kids) hx.alts ?_
   intro k hkm
   obtain⟨q,hq,rfl⟩:=List.mem_map.1 hkm
   obtain⟨q0,q1⟩:=hk i hi q hq
   exact ih q.toNat (by omega) (by omega)
def qzK (flat:Bool) (op:Int):Bool:=(flat && qiZ op) || (!flat && qi0 op)
def qbM (flat:Bool) (l:Lab):Int:=if qzK flat l.op=true then 3 else qrV l
def qjy (e:List CExpr) (ps:List Int) (flat:Bool):Int :=
 if qfh e≠0 then qfh e
 else if qbQ (e.map fun x=>qbM flat (qd0 e x))≠0 then qbQ (e.map fun x=>qbM flat (qd0 e x))
 else if qin e ps=true then 7
 else if ((qgF (qbr e)).any fun n => !qsw ps n)=true then 6 else 0
theorem qdC {α:Type} (g:α→Int):∀ (l:List α),qbQ (l.map g)=0↔∀ x∈l,g x=0
 | []=>by simp[qbQ]
 | x :: l => by
   rw[List.map_cons,qbQ]
   by_cases h:g x=0
   ·rw[if_pos h,qdC g l]
    simp[h]
   ·rw[if_neg h]
    simp[h]
structure CLib (L:Lib):Prop where
 plain:Plain L
 prims:CPrims L qa3
 f134:L.fns 134=some fn134
 f151:L.fns 151=some fn151
 grow:∀ (e:List CExpr) (h:Heap),e.length<2 ^ 30→(∀ x∈e,NodeFit x)→TreeL e→hgt (qbr e)≤400→pcall L 160 [.list (e.map qal) none] h=some (.val (qao (qbr e)),h)
 f165:L.fns 165=some fn165
 f167:L.fns 167=some fn167
 f181:L.fns 181=some fn181
 f190:L.fns 190=some fn190
 f191:L.fns 191=some fn191
 f192:L.fns 192=some fn192
 f193:L.fns 193=some fn193
 f194:L.fns 194=some fn194
 f195:L.fns 195=some fn195
 f196:L.fns 196=some fn196
 f232:L.fns 232=some fn232
 f234:L.fns 234=some fn234
 f235:L.fns 235=some fn235
 f236:L.fns 236=some fn236
 f258:L.fns 258=some fn258
 f259:L.fns 259=some fn259
 f264:L.fns 264=some fn264
 f265:L.fns 265=some fn265
 f266:L.fns 266=some fn266
section
variable {L:Lib} (hC:CLib L)
include hC
theorem qwZ (e:List CExpr) (hl:e.length<2 ^ 30) (hf:∀ x∈e,NodeFit x) (hk:qdz e) (ps:List Int) (flat:Bool) :
  qa2 L.pure (call L) 1 [1,2,3,18,19,20] [1,3,6] 0 qdg ⟨kt [1,2,3,18,19,20] [.list (ps.map qat) none,.bool flat,.vptr [.list (e.map qal) none] 0,.list (e.map qal) none,.int .i64 e.length,.int .i64 ((0:Nat):Int)],[.gone]⟩ =
  some (if qbQ (e.map fun x=>qbM flat (qd0 e x))=0 then (.normal,⟨kt [1,3,6] [.list (ps.map qat) none,.vptr [.list (e.map qal) none] 0,.junk],[.gone]⟩)
   else (.ret,⟨kt [1,3,6] [.list (ps.map qat) none,.vptr [.list (e.map qal) none] 0,.int .i64 (qbQ (e.map fun x=>qbM flat (qd0 e x)))],[.gone]⟩)):=by
 have hL:=hC.plain
 have hp:=hL.pure
 have hdE:=qaD e
 have hround:∀ (i:Nat) (hi:i<e.length),qa1 L.pure (call L) 1 [1,2,3,18,19,20] [1,3,6] qdg ⟨kt [1,2,3,18,19,20] [.list (ps.map qat) none,.bool flat,.vptr [.list (e.map qal) none] 0,.list (e.map qal) none,.int .i64 e.length,.int .i64 i],[.gone]⟩ =
   some (if qbM flat (qd0 e e[i])=0 then (.normal,⟨kt [1,2,3,18,19,20] [.list (ps.map qat) none,.bool flat,.vptr [.list (e.map qal) none] 0,.list (e.map qal) none,.int .i64 e.length,.int .i64 ((i+1:Nat):Int)],[.gone]⟩)
    else (.ret,⟨kt [1,3,6] [.list (ps.map qat) none,.vptr [.list (e.map qal) none] 0,.int .i64 (qbM flat (qd0 e e[i]))],[.gone]⟩)):=by
  intro i hi
  obtain⟨h1,h2,h3⟩:=qaM qal e hl i hi
  have hn:=qyM hL hC.f265 hC.f264 hC.f266 hC.f258 hC.f259 hC.f234 hC.f235 hC.f194 hC.f193 e e[i] (hf e[i] (List.getElem_mem hi)) (fun k hkm=>by have:=hk i hi k hkm;omega)
  have c1:=qpN hL hC.f191 e[i].op
  have c2:=qpQ hL hC.f192 e[i].op
  unfold qpX at hn
  unfold qbM
  have hop:(qd0 e e[i]).op=e[i].op:=rfl
  rw[hop]
  generalize qd0 e e[i]=lb at *
  generalize e[i]=x at *
  rw[qaP] at hn
  unfold qzK
  cases flat with
  | true =>
    cases hc:qiZ x.op with
    | true =>
      rw[hc] at c1
      unfold qdg
      simp -implicitDefEqProofs only[ev_,aOp,opd,qaa,qar,qaA,qaz,qad,qab,qae,qag,qaI,qaJ,qai,leaf,qaq,gcE,qax,ren,renC,qa0,qbb,↓reduceIte,Nat.reduceEqDiff,Nat.reduceAdd,Nat.reduceLeDiff,Int.reduceEq,qav,qaP,qah,h1,h2,h3,c1,hdE,qam L hp,hp]
    | false =>
      rw[hc] at c1
      by_cases hz:qrV lb=0
      ·rw[hz] at hn
       unfold qdg
       simp -implicitDefEqProofs only[ev_,aOp,opd,qaa,qar,qaA,qaz,aUn,qad,qab,qae,qag,qaI,qaJ,qai,leaf,qaq,qax,ren,renC,qa0,qbb,↓reduceIte,Nat.reduceEqDiff,Nat.reduceAdd,Nat.reduceLeDiff,qav,qaP,qah,qan,h1,h2,h3,c1,hn,hz,hdE,qam L hp,hp,bne]
      ·have hz':(qrV lb==0)=false:=by simpa using hz
       unfold qdg
       simp -implicitDefEqProofs only[ev_,aOp,opd,qaa,qar,qaA,qaz,aUn,qad,qab,qae,qag,qaI,qaJ,qai,leaf,qaq,gcE,qax,ren,renC,qa0,qbb,↓reduceIte,Nat.reduceEqDiff,Nat.reduceAdd,Nat.reduceLeDiff,qav,qaP,qah,qan,h1,h2,h3,c1,hn,hz,hz',hdE,qam L hp,hp,bne]
  | false =>
    cases hc:qi0 x.op with
    | true =>
      rw[hc] at c2
      unfold qdg
      simp -implicitDefEqProofs only[ev_,aOp,opd,qaa,qar,qaA,qaz,aUn,qad,qab,qae,qag,qaI,qaJ,qai,leaf,qaq,gcE,qax,ren,renC,qa0,qbb,↓reduceIte,Nat.reduceEqDiff,Nat.reduceAdd,Nat.reduceLeDiff,Int.reduceEq,qav,qaP,qah,h1,h2,h3,c2,hdE,qam L hp,hp]
    | false =>
      rw[hc] at c2
      by_cases hz:qrV lb=0
      ·rw[hz] at hn
       unfold qdg
       simp -implicitDefEqProofs only[ev_,aOp,opd,qaa,qar,qaA,qaz,aUn,qad,qab,qae,qag,qaI,qaJ,qai,leaf,qaq,qax,ren,renC,qa0,qbb,↓reduceIte,Nat.reduceEqDiff,Nat.reduceAdd,Nat.reduceLeDiff,qav,qaP,qah,qan,h1,h2,h3,c2,hn,hz,hdE,qam L hp,hp,bne]
      ·have hz':(qrV lb==0)=false:=by simpa using hz
       unfold qdg
       simp -implicitDefEqProofs only[ev_,aOp,opd,qaa,qar,qaA,qaz,aUn,qad,qab,qae,qag,qaI,qaJ,qai,leaf,qaq,gcE,qax,ren,renC,qa0,qbb,↓reduceIte,Nat.reduceEqDiff,Nat.reduceAdd,Nat.reduceLeDiff,qav,qaP,qah,qan,h1,h2,h3,c2,hn,hz,hz',hdE,qam L hp,hp,bne]
 refine qtO e (fun x=>qbM flat (qd0 e x)) (fun i=>⟨kt [1,2,3,18,19,20] [.list (ps.map qat) none,.bool flat,.vptr [.list (e.map qal) none] 0,.list (e.map qal) none,.int .i64 e.length,.int .i64 i],[.gone]⟩) _
  (fun r=>⟨kt [1,3,6] [.list (ps.map qat) none,.vptr [.list (e.map qal) none] 0,.int .i64 r],[.gone]⟩) ?_ ?_ ?_
 ·intro i hi hz
  rw[hround i hi,if_pos hz]
 ·intro i hi hz
  rw[hround i hi,if_neg hz]
 ·have h0:=qaQ e.length
  unfold qdg
  simp -implicitDefEqProofs only[ev_,aOp,opd,qaa,qaA,qaz,qab,gcE,qax,ren,renC,qa0,qbb,↓reduceIte,Nat.reduceEqDiff,qah,h0,hdE]
theorem qw0 (ps fs:List Int) (hps:ps.length<2 ^ 30) (hfs:fs.length<2 ^ 30) :
  qa2 L.pure (call L) 1 [1,51,52,53] [6] 2 qhn ⟨kt [1,51,52,53] [.list (ps.map qat) none,.list (fs.map qat) none,.int .i64 fs.length,.int .i64 ((0:Nat):Int)],[.gone]⟩ =
  some (if (fs.any fun n => !qsw ps n)=true then (.ret,⟨kt [6] [.int .i64 6],[.gone]⟩) else (.normal,⟨kt [6] [.junk],[.gone]⟩)):=by
 have hL:=hC.plain
 have hp:=hL.pure
 refine qfJ fs (fun n => !qsw ps n) (fun i=>⟨kt [1,51,52,53] [.list (ps.map qat) none,.list (fs.map qat) none,.int .i64 fs.length,.int .i64 i],[.gone]⟩) _ _ ?_ ?_ ?_
 ·intro i hi hq
  obtain⟨h1,h2,h3⟩:=qaM qat fs hfs i hi
  have hc:=qjN hL hC.f181 hC.f151 ps hps fs[i]
  have hq:qsw ps fs[i]=true:=by simpa using hq
  rw[hq] at hc
  generalize fs[i]=a at *
  unfold qhn
  simp -implicitDefEqProofs only[ev_,aOp,opd,qaa,qaA,qaz,aUn,qad,qab,qag,qax,ren,renC,qa0,qbb,↓reduceIte,Nat.reduceEqDiff,qav,qaT,qah,h1,h2,h3,hc,qam L hp,hp]
 ·intro i hi hq
  obtain⟨h1,h2,h3⟩:=qaM qat fs hfs i hi
  have hc:=qjN hL hC.f181 hC.f151 ps hps fs[i]
  have hq:qsw ps fs[i]=false:=by simpa using hq
  rw[hq] at hc
  generalize fs[i]=a at *
  unfold qhn
  simp -implicitDefEqProofs only[ev_,aOp,opd,qaa,qaA,qaz,aUn,qad,qab,qag,gcE,qax,ren,renC,qa0,qbb,↓reduceIte,Nat.reduceEqDiff,qav,qaT,qah,h1,h2,h3,hc,qam L hp,hp]
 ·have h0:=qaQ fs.length
  unfold qhn
  simp -implicitDefEqProofs only[ev_,aOp,opd,qaa,qaA,qaz,qab,gcE,qax,ren,renC,qa0,qbb,↓reduceIte,Nat.reduceEqDiff,h0]
theorem qw1 (e:List CExpr) (hl:e.length<2 ^ 30) (hf:∀ x∈e,NodeFit x) (ps:List Int) (hps:ps.length<2 ^ 30) (flat:Bool) (h:Heap) :
  pcall L 165 [.list (e.map qal) none,.list (ps.map qat) none,.bool flat] h=some (.val (.int .i64 (qjy e ps flat)),h):=by
 have hL:=hC.plain
 have hp:=hL.pure
 have hdE:=qaD e
 refine qaV hL hC.f165 rfl ?_ h
 have htree:=qy3 hL hC.f190 e hf hl
 unfold qjy
 by_cases ht:qfh e=0
 ·have htz:=(qfW e).1 ht
  obtain⟨hT,hn,hg⟩:=htz
  have hne:e≠[]:=fun h=>by have:=hT.pos;rw[h] at this;simp at this
  have hl0:=qwZ hC e hl hf hT.ahead ps flat
  simp only[Int.natCast_zero] at hl0
  rw[if_neg (fun h=>h ht)]
  rw[ht] at htree
  by_cases hz:qbQ (e.map fun x=>qbM flat (qd0 e x))=0
  ·rw[if_pos hz] at hl0
   rw[if_neg (fun h=>h hz)]
   have hall:=(qdC _ e).1 hz
   have herr:∀ x∈e,qrV (qd0 e x)=0:=by
    intro x hx
    have:=hall x hx
    unfold qbM at this
    split at this
    ·cases this
    ·exact this
   have hb:∀ x∈e,quW x:=by
    intro x hx
    have:=qqH (herr x hx) (by unfold qd0;rw[List.length_map];have:=qtE e hT x hx;omega)
    unfold quW
    unfold qd0 at this
    dsimp only at this
    omega
   have htw:=qwo hL hC.f232 hC.f195 e hl hf hb ps hps
   cases hw:qin e ps with
   | true =>
     rw[hw] at htw
     rw[if_pos rfl]
     unfold fn165
     simp -implicitDefEqProofs only[ev_,aOp,opd,qaa,qaA,qa7,qaz,qab,qag,leaf,qap,qac,qaf,qaj,qax,ren,renC,qa0,qbb,↓reduceIte,reduceCtorEq,Nat.reduceEqDiff,Nat.reduceLT,frz,frzC,qiT,qav,qak,qah,htree,hl0,htw,hdE,qam L hp,hp,bne]
   | false =>
     rw[hw] at htw
     rw[if_neg (by decide)]
     have hgrow:=fun h=>hC.grow e h hl hf hT hg
     have hfit:TFit (qbr e):=qqc e hT.ahead hf hb _ (by have:=hT.pos;omega)
     have hsz:=qgu e hT
     have hfl:=qqK (qbr e) ([],[])
     rw[List.length_nil,Nat.zero_add,hsz] at hfl
     have hfree:=qtp hL hC.prims hC.f236 hC.f196 hC.f167 (qbr e) hfit (by omega) (by omega)
     have hfo:(qgF (qbr e)).length<2 ^ 30:=by
      unfold qgF qeu
      rw[qea,List.length_map]
      omega
     have hl1:=qw0 hC ps (qgF (qbr e)) hps hfo
     simp only[Int.natCast_zero] at hl1
     generalize qgF (qbr e)=fs at *
     obtain⟨tc,htc,hdt⟩:=qbz (qbr e)
     rw[htc] at hgrow hfree
     cases hx:fs.any fun n => !qsw ps n with
     | true =>
       simp only[hx,if_true] at hl1
       rw[if_pos rfl]
       unfold fn165
       simp -implicitDefEqProofs only[ev_,aOp,opd,qaa,qaA,qa7,qaz,qab,qag,leaf,qap,qac,qaf,qaj,qax,ren,renC,qa0,qbb,↓reduceIte,reduceCtorEq,Nat.reduceEqDiff,Nat.reduceLT,frz,frzC,qiT,qav,qak,qah,htree,hl0,htw,hgrow,hfree,hl1,hdE,hdt,qds,qam L hp,hp,bne]
     | false =>
       simp only[hx,Bool.false_eq_true,if_false] at hl1
       rw[if_neg (by decide)]
       unfold fn165
       simp -implicitDefEqProofs only[ev_,aOp,opd,qaa,qaA,qa7,qaz,qab,qag,leaf,qap,qac,qaf,qaj,qax,ren,renC,qa0,qbb,↓reduceIte,reduceCtorEq,Nat.reduceEqDiff,Nat.reduceLT,frz,frzC,qiT,qav,qak,qah,htree,hl0,htw,hgrow,hfree,hl1,hdE,hdt,qds,qam L hp,hp,bne]
  ·rw[if_neg hz] at hl0
   rw[if_pos hz]
   generalize qbQ (e.map fun x=>qbM flat (qd0 e x))=r at *
   unfold fn165
   simp -implicitDefEqProofs only[ev_,aOp,opd,qaa,qaA,qa7,qaz,qab,qag,leaf,qap,qac,qaf,qaj,qax,ren,renC,qa0,qbb,↓reduceIte,reduceCtorEq,Nat.reduceEqDiff,Nat.reduceLT,frz,frzC,qiT,qav,qak,qah,htree,hl0,hdE,qam L hp,hp,bne]
 ·have hz':(qfh e==0)=false:=by simpa using ht
  rw[if_pos ht]
  unfold fn165
  simp -implicitDefEqProofs only[ev_,aOp,opd,qaa,qaA,qaz,qab,qag,qap,qac,qaf,qaj,↓reduceIte,Nat.reduceEqDiff,qav,qak,htree,hz',hdE,qam L hp,hp,bne]
def qaO (e:List CExpr):Int:=qjy e [] false
theorem qd3 (e:List CExpr) (hl:e.length<2 ^ 30) (hf:∀ x∈e,NodeFit x) (h:Heap):pcall L 134 [.list (e.map qal) none] h=some (.val (.int .i64 (qaO e)),h):=by
 have hL:=hC.plain
 have hp:=hL.pure
 have hdE:=qaD e
 refine qaV hL hC.f134 rfl ?_ h
 have hb:=qw1 hC e hl hf [] (by simp) false
 unfold qaO fn134
 simp -implicitDefEqProofs only[ev_,aOp,opd,qap,qac,qaf,qaj,↓reduceIte,reduceCtorEq,qav,hdE,qam L hp,hp]
 simp only[List.map_nil] at hb
 simp -implicitDefEqProofs only[ev_,↓reduceIte,qak,hb]
end
theorem qhR:∀ (a b:List CTree),qaC (a++b)=qaC a+qaC b
 | [],b=>by rw[List.nil_append,qaC];omega
 | x::a,b=>by rw[List.cons_append,qaC,qaC,qhR a b];omega
theorem qkB:∀ (ks:List CTree) (b:Nat),(qbo ks b).length=ks.length
 | [],b=>rfl
 | k::ks,b=>by rw[qbo,List.length_cons,qkB ks];rfl
theorem qkM (ks:List CTree) (j:Nat):qaC (ks.take j)≤qaC ks:=by
 conv=>rhs;rw[← List.take_append_drop j ks,qhR]
 omega
section
variable {L:Lib} (hL:Plain L)
include hL
def hB (op n:Int) (binds:List Int) (outs:List CExpr) (ids:List Int) (j:Nat):Heap :=
 if j=0 then [.box [.func 187 [] [.ptr (some (0,0)),.ptr (some (1,0))]],.box [.list [] (some none)],.box [.int .i64 op,.int .i64 n,.list (binds.map qat) none,.list [] (some none),.list [] (some none)]]
 else [.box [.func 187 [] [.ptr (some (0,0)),.ptr (some (1,0))]],.box [.list (outs.map qal) (some (some 3))],.box [.int .i64 op,.int .i64 n,.list (binds.map qat) none,.list (ids.map qat) (some (some 4)),.list [] (some none)],.tail outs.length 5,.tail j 1]
end
end Go.Abs
