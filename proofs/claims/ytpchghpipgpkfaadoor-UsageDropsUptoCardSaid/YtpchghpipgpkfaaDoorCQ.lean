/-
  PARTS OF A PROOF, joined: an abstract machine for quiet code, its evaluation, and what the seat's functions answer on it. Conditions: none.
-/
import Derived.Test.YtpchghpipgpkfaaDoorN
import Derived.Test.YtpchghpipgpkfaaDoorC
set_option linter.unusedVariables false
set_option linter.unusedSimpArgs false
set_option maxRecDepth 100000
set_option maxHeartbeats 4000000
namespace Go.Abs
theorem qg5:∀ (as:List CAlt) (b:Int),b≤qbh b as∧∀ a∈as,(a.binds.length:Int)≤qbh b as
 | [],b=>⟨Int.le_refl _,by simp⟩
 | a :: as,b => by
   obtain⟨h1,h2⟩:=qg5 as (max b (a.binds.length:Int))
   have e:qbh b (a::as)=qbh (max b (a.binds.length:Int)) as:=rfl
   rw[e]
   refine⟨by omega,fun x hx=>?_⟩
   rcases List.mem_cons.1 hx with rfl | hx
   ·omega
   ·exact h2 x hx
theorem qe6 {op n:Int} {binds:List Int} {kl:Nat} {as:List CAlt} (h:qc1 op n binds kl as=0):qbh binds.length as≤16:=by
 unfold qc1 at h
 split at h
 ·cases h
 ·split at h
  ·cases h
  ·split at h
   ·cases h
   ·split at h
    ·cases h
    ·rename_i ht
     unfold qky at ht
     simp only[Bool.or_eq_true,decide_eq_true_eq,not_or] at ht
     have:=ht.1.1.1
     split at this<;>omega
theorem ql2 {op n:Int} {bl kl:Nat} {as:List CAlt} (h:qa3 op n bl kl as=true):as.length=0∨kl=as.length+1:=by
 unfold qa3 at h
 split at h
 ·simp only[Bool.and_eq_true] at h
  have:=h.1.1
  unfold qji at this
  simp only[Bool.and_eq_true,beq_iff_eq] at this
  right
  omega
 ·split at h
  ·cases h
  ·unfold qbJ at h
   simp only[Bool.and_eq_true,beq_iff_eq] at h
   left
   omega
theorem qlr (as:List CAlt) (h:∀ a∈as,a.binds.length≤16):(as.flatMap (·.binds)).length≤16*as.length:=by
 induction as with
 | nil=>simp
 | cons a as ih =>
   rw[List.flatMap_cons,List.length_append,List.length_cons]
   have:=h a (by simp)
   have:=ih fun x hx=>h x (by simp[hx])
   omega
theorem qqC {l:Lab} (h:qqB l=0) (hk:l.kops.length≤4096):(l.binds++l.alts.flatMap (·.binds)).length≤16+16*4096:=by
 unfold qqB at h
 split at h
 ·cases h
 ·rename_i hs
  have hs:qa3 l.op l.n l.binds.length l.kops.length l.alts=true:=by simpa using hs
  split at h
  ·rename_i hr;exact absurd h hr
  ·rename_i hr
   have hr:qc1 l.op l.n l.binds l.kops.length l.alts=0:=Classical.not_not.1 hr
   have hf:=qe6 hr
   obtain⟨h1,h2⟩:=qg5 l.alts (l.binds.length:Int)
   have h3:=qlr l.alts fun a ha=>by have:=h2 a ha;omega
   rw[List.length_append]
   rcases ql2 hs with h4 | h4<;>omega
theorem qrM (e:List CExpr) (h:TreeL e):(e.flatMap (·.kids)).length+1=e.length:=by
 have h1:=(qea e h).length_eq
 rw[List.length_range,List.length_cons] at h1
 have h2:((List.range e.length).flatMap (qbm e)).length=(e.flatMap (·.kids)).length:=by
  have h3:e=(List.range e.length).map fun i=>(e[i]?).getD ⟨0,0,[],[],[]⟩:=by
   refine List.ext_getElem (by simp) fun i h1 h2=>?_
   simp[h1]
  conv=>rhs;rw[h3,List.flatMap_map]
  rw[List.length_flatMap,List.length_flatMap]
  congr 1
  refine List.map_congr_left fun i hi=>?_
  have hi:=List.mem_range.1 hi
  unfold qbm
  simp[hi]
 omega
theorem qtd (e:List CExpr) (h:TreeL e) (x:CExpr) (hx:x∈e):x.kids.length≤e.length:=by
 have h1:=qrM e h
 obtain⟨s,t,rfl⟩:=List.append_of_mem hx
 rw[List.flatMap_append,List.flatMap_cons,List.length_append,List.length_append] at h1
 omega
theorem qvX {β:Type} (v:Int) (b:β) (m:IM β):(qh1 v b m).length≤m.length+1:=by
 have hins:∀ m:IM β,(qmz v b m).length=m.length+1:=by
  intro m
  induction m with
  | nil=>rfl
  | cons p m ih=>unfold qmz;split<;>simp[ih]
 unfold qh1
 split
 ·unfold qoL;simp
 ·rw[hins];omega
mutual
theorem qqE:∀ (t:CTree) (s:FS),(qdF t s).2.length≤s.2.length+qaJ t
 | .mk op n binds kids alts,s => by
   rw[qdF,qaJ]
   have:=qnN op binds alts kids 0 (qc0 op n s)
   have h2:(qc0 op n s).2.length≤s.2.length+1:=by
    unfold qc0
    split
    ·exact qvX _ _ _
    ·omega
   omega
theorem qnN (op:Int) (binds:List Int) (alts:List CAlt):∀ (ks:List CTree) (k:Nat) (s:FS),(qdx op binds alts ks k s).2.length≤s.2.length+qat ks
 | [],k,s=>by rw[qdx];omega
 | kid :: ks,k,s => by
   rw[qdx,qat]
   have h1:=qnN op binds alts ks (k+1) ((qbg op binds alts k).foldl (qgw (-1)) (qdF kid ((qbg op binds alts k).foldl (qgw 1) s.1,s.2)).1,(qdF kid ((qbg op binds alts k).foldl (qgw 1) s.1,s.2)).2)
   have h2:=qqE kid ((qbg op binds alts k).foldl (qgw 1) s.1,s.2)
   dsimp only at h1 h2
   omega
end
theorem qp5 (e:List CExpr) (hk:qeH e) (hf:∀ x∈e,NodeFit x) (hb:∀ x∈e,quv x):∀ i,i<e.length→TFit (qbn e i):=by
 intro i
 induction i using Nat.strongRecOn with
 | ind i ih =>
   intro hi
   rw[qca e hk i hi]
   have hx:=hf e[i] (List.getElem_mem hi)
   refine .mk _ _ _ _ _ (hb e[i] (List.getElem_mem hi)) (by rw[List.length_map];exact hx.kids) hx.alts ?_
   intro k hkm
   obtain⟨q,hq,rfl⟩:=List.mem_map.1 hkm
   obtain⟨q0,q1⟩:=hk i hi q hq
   exact ih q.toNat (by omega) (by omega)
def qzk (flat:Bool) (op:Int):Bool:=(flat && qiN op) || (!flat && qiP op)
def qbL (flat:Bool) (l:Lab):Int:=if qzk flat l.op=true then 3 else qqB l
def qjl (e:List CExpr) (ps:List Int) (flat:Bool):Int :=
 if qek e≠0 then qek e
 else if qbG (e.map fun x=>qbL flat (qhs e x))≠0 then qbG (e.map fun x=>qbL flat (qhs e x))
 else if qib e ps=true then 7
 else if ((qd7 (qbw e)).any fun n => !qrH ps n)=true then 6 else 0
theorem qdD {α:Type} (g:α→Int):∀ (l:List α),qbG (l.map g)=0↔∀ x∈l,g x=0
 | []=>by simp[qbG]
 | x :: l => by
   rw[List.map_cons,qbG]
   by_cases h:g x=0
   ·rw[if_pos h,qdD g l]
    simp[h]
   ·rw[if_neg h]
    simp[h]
structure CLib (L:Lib):Prop where
 plain:Plain L
 prims:CPrims L qa0
 f134:L.fns 134=some fn134
 f151:L.fns 151=some fn151
 grow:∀ (e:List CExpr) (h:Heap),e.length<2 ^ 30→(∀ x∈e,NodeFit x)→TreeL e→hgt (qbw e)≤400→pcall L 160 [.list (e.map qam) none] h=some (.val (qaw (qbw e)),h)
 f165:L.fns 165=some fn165
 f167:L.fns 167=some fn167
 f181:L.fns 181=some fn181
 f190:L.fns 190=some fn190
 f191:L.fns 191=some fn191
 f192:L.fns 192=some fn192
 f193:L.fns 193=some fn193
 f194:L.fns 194=some fn194
 f195:L.fns 195=some fn195
 f196:L.fns 196=some fn196
 f232:L.fns 232=some fn232
 f234:L.fns 234=some fn234
 f235:L.fns 235=some fn235
 f236:L.fns 236=some fn236
 f258:L.fns 258=some fn258
 f259:L.fns 259=some fn259
 f264:L.fns 264=some fn264
 f265:L.fns 265=some fn265
 f266:L.fns 266=some fn266
section
variable {L:Lib} (hC:CLib L)
include hC
theorem qwD (e:List CExpr) (hl:e.length<2 ^ 30) (hf:∀ x∈e,NodeFit x) (hk:qeH e) (ps:List Int) (flat:Bool) :
  qbd L.pure (call L) 1 [1,2,3,18,19,20] [1,3,6] 0 qdi ⟨kt [1,2,3,18,19,20] [.list (ps.map qau) none,.bool flat,.vptr [.list (e.map qam) none] 0,.list (e.map qam) none,.int .i64 e.length,.int .i64 ((0:Nat):Int)],[.gone]⟩ =
  some (if qbG (e.map fun x=>qbL flat (qhs e x))=0 then (.normal,⟨kt [1,3,6] [.list (ps.map qau) none,.vptr [.list (e.map qam) none] 0,.junk],[.gone]⟩)
   else (.ret,⟨kt [1,3,6] [.list (ps.map qau) none,.vptr [.list (e.map qam) none] 0,.int .i64 (qbG (e.map fun x=>qbL flat (qhs e x)))],[.gone]⟩)):=by
 have hL:=hC.plain
 have hp:=hL.pure
 have hdE:=qaY e
 have hround:∀ (i:Nat) (hi:i<e.length),qa8 L.pure (call L) 1 [1,2,3,18,19,20] [1,3,6] qdi ⟨kt [1,2,3,18,19,20] [.list (ps.map qau) none,.bool flat,.vptr [.list (e.map qam) none] 0,.list (e.map qam) none,.int .i64 e.length,.int .i64 i],[.gone]⟩ =
   some (if qbL flat (qhs e e[i])=0 then (.normal,⟨kt [1,2,3,18,19,20] [.list (ps.map qau) none,.bool flat,.vptr [.list (e.map qam) none] 0,.list (e.map qam) none,.int .i64 e.length,.int .i64 ((i+1:Nat):Int)],[.gone]⟩)
    else (.ret,⟨kt [1,3,6] [.list (ps.map qau) none,.vptr [.list (e.map qam) none] 0,.int .i64 (qbL flat (qhs e e[i]))],[.gone]⟩)):=by
  intro i hi
  obtain⟨h1,h2,h3⟩:=qaN qam e hl i hi
  have hn:=qyq hL hC.f265 hC.f264 hC.f266 hC.f258 hC.f259 hC.f234 hC.f235 hC.f194 hC.f193 e e[i] (hf e[i] (List.getElem_mem hi)) (fun k hkm=>by have:=hk i hi k hkm;omega)
  have c1:=qpF hL hC.f191 e[i].op
  have c2:=qpI hL hC.f192 e[i].op
  unfold qpR at hn
  unfold qbL
  have hop:(qhs e e[i]).op=e[i].op:=rfl
  rw[hop]
  generalize qhs e e[i]=lb at *
  generalize e[i]=x at *
  rw[qaR] at hn
  unfold qzk
  cases flat with
  | true =>
    cases hc:qiN x.op with
    | true =>
      rw[hc] at c1
      unfold qdi
      simp -implicitDefEqProofs only[ev_,aOp,opd,qaa,qaq,qaA,qaz,qad,qab,qae,qag,qaL,qaK,qai,leaf,qao,gcE,qav,ren,renC,qaW,qbc,↓reduceIte,Nat.reduceEqDiff,Nat.reduceAdd,Nat.reduceLeDiff,Int.reduceEq,qay,qaR,qah,h1,h2,h3,c1,hdE,qan L hp,hp]
    | false =>
      rw[hc] at c1
      by_cases hz:qqB lb=0
      ·rw[hz] at hn
       unfold qdi
       simp -implicitDefEqProofs only[ev_,aOp,opd,qaa,qaq,qaA,qaz,aUn,qad,qab,qae,qag,qaL,qaK,qai,leaf,qao,qav,ren,renC,qaW,qbc,↓reduceIte,Nat.reduceEqDiff,Nat.reduceAdd,Nat.reduceLeDiff,qay,qaR,qah,qak,h1,h2,h3,c1,hn,hz,hdE,qan L hp,hp,bne]
      ·have hz':(qqB lb==0)=false:=by simpa using hz
       unfold qdi
       simp -implicitDefEqProofs only[ev_,aOp,opd,qaa,qaq,qaA,qaz,aUn,qad,qab,qae,qag,qaL,qaK,qai,leaf,qao,gcE,qav,ren,renC,qaW,qbc,↓reduceIte,Nat.reduceEqDiff,Nat.reduceAdd,Nat.reduceLeDiff,qay,qaR,qah,qak,h1,h2,h3,c1,hn,hz,hz',hdE,qan L hp,hp,bne]
  | false =>
    cases hc:qiP x.op with
    | true =>
      rw[hc] at c2
      unfold qdi
      simp -implicitDefEqProofs only[ev_,aOp,opd,qaa,qaq,qaA,qaz,aUn,qad,qab,qae,qag,qaL,qaK,qai,leaf,qao,gcE,qav,ren,renC,qaW,qbc,↓reduceIte,Nat.reduceEqDiff,Nat.reduceAdd,Nat.reduceLeDiff,Int.reduceEq,qay,qaR,qah,h1,h2,h3,c2,hdE,qan L hp,hp]
    | false =>
      rw[hc] at c2
      by_cases hz:qqB lb=0
      ·rw[hz] at hn
       unfold qdi
       simp -implicitDefEqProofs only[ev_,aOp,opd,qaa,qaq,qaA,qaz,aUn,qad,qab,qae,qag,qaL,qaK,qai,leaf,qao,qav,ren,renC,qaW,qbc,↓reduceIte,Nat.reduceEqDiff,Nat.reduceAdd,Nat.reduceLeDiff,qay,qaR,qah,qak,h1,h2,h3,c2,hn,hz,hdE,qan L hp,hp,bne]
      ·have hz':(qqB lb==0)=false:=by simpa using hz
       unfold qdi
       simp -implicitDefEqProofs only[ev_,aOp,opd,qaa,qaq,qaA,qaz,aUn,qad,qab,qae,qag,qaL,qaK,qai,leaf,qao,gcE,qav,ren,renC,qaW,qbc,↓reduceIte,Nat.reduceEqDiff,Nat.reduceAdd,Nat.reduceLeDiff,qay,qaR,qah,qak,h1,h2,h3,c2,hn,hz,hz',hdE,qan L hp,hp,bne]
 refine qto e (fun x=>qbL flat (qhs e x)) (fun i=>⟨kt [1,2,3,18,19,20] [.list (ps.map qau) none,.bool flat,.vptr [.list (e.map qam) none] 0,.list (e.map qam) none,.int .i64 e.length,.int .i64 i],[.gone]⟩) _
  (fun r=>⟨kt [1,3,6] [.list (ps.map qau) none,.vptr [.list (e.map qam) none] 0,.int .i64 r],[.gone]⟩) ?_ ?_ ?_
 ·intro i hi hz
  rw[hround i hi,if_pos hz]
 ·intro i hi hz
  rw[hround i hi,if_neg hz]
 ·have h0:=qaO e.length
  unfold qdi
  simp -implicitDefEqProofs only[ev_,aOp,opd,qaa,qaA,qaz,qab,gcE,qav,ren,renC,qaW,qbc,↓reduceIte,Nat.reduceEqDiff,qah,h0,hdE]
theorem qwE (ps fs:List Int) (hps:ps.length<2 ^ 30) (hfs:fs.length<2 ^ 30) :
  qbd L.pure (call L) 1 [1,51,52,53] [6] 2 qg9 ⟨kt [1,51,52,53] [.list (ps.map qau) none,.list (fs.map qau) none,.int .i64 fs.length,.int .i64 ((0:Nat):Int)],[.gone]⟩ =
  some (if (fs.any fun n => !qrH ps n)=true then (.ret,⟨kt [6] [.int .i64 6],[.gone]⟩) else (.normal,⟨kt [6] [.junk],[.gone]⟩)):=by
 have hL:=hC.plain
 have hp:=hL.pure
 refine qfE fs (fun n => !qrH ps n) (fun i=>⟨kt [1,51,52,53] [.list (ps.map qau) none,.list (fs.map qau) none,.int .i64 fs.length,.int .i64 i],[.gone]⟩) _ _ ?_ ?_ ?_
 ·intro i hi hq
  obtain⟨h1,h2,h3⟩:=qaN qau fs hfs i hi
  have hc:=qjB hL hC.f181 hC.f151 ps hps fs[i]
  have hq:qrH ps fs[i]=true:=by simpa using hq
  rw[hq] at hc
  generalize fs[i]=a at *
  unfold qg9
  simp -implicitDefEqProofs only[ev_,aOp,opd,qaa,qaA,qaz,aUn,qad,qab,qag,qav,ren,renC,qaW,qbc,↓reduceIte,Nat.reduceEqDiff,qay,qa9,qah,h1,h2,h3,hc,qan L hp,hp]
 ·intro i hi hq
  obtain⟨h1,h2,h3⟩:=qaN qau fs hfs i hi
  have hc:=qjB hL hC.f181 hC.f151 ps hps fs[i]
  have hq:qrH ps fs[i]=false:=by simpa using hq
  rw[hq] at hc
  generalize fs[i]=a at *
  unfold qg9
  simp -implicitDefEqProofs only[ev_,aOp,opd,qaa,qaA,qaz,aUn,qad,qab,qag,gcE,qav,ren,renC,qaW,qbc,↓reduceIte,Nat.reduceEqDiff,qay,qa9,qah,h1,h2,h3,hc,qan L hp,hp]
 ·have h0:=qaO fs.length
  unfold qg9
  simp -implicitDefEqProofs only[ev_,aOp,opd,qaa,qaA,qaz,qab,gcE,qav,ren,renC,qaW,qbc,↓reduceIte,Nat.reduceEqDiff,h0]
theorem qwF (e:List CExpr) (hl:e.length<2 ^ 30) (hf:∀ x∈e,NodeFit x) (ps:List Int) (hps:ps.length<2 ^ 30) (flat:Bool) (h:Heap) :
  pcall L 165 [.list (e.map qam) none,.list (ps.map qau) none,.bool flat] h=some (.val (.int .i64 (qjl e ps flat)),h):=by
 have hL:=hC.plain
 have hp:=hL.pure
 have hdE:=qaY e
 refine qa5 hL hC.f165 rfl ?_ h
 have htree:=qyI hL hC.f190 e hf hl
 unfold qjl
 by_cases ht:qek e=0
 ·have htz:=(qfN e).1 ht
  obtain⟨hT,hn,hg⟩:=htz
  have hne:e≠[]:=fun h=>by have:=hT.pos;rw[h] at this;simp at this
  have hl0:=qwD hC e hl hf hT.ahead ps flat
  simp only[Int.natCast_zero] at hl0
  rw[if_neg (fun h=>h ht)]
  rw[ht] at htree
  by_cases hz:qbG (e.map fun x=>qbL flat (qhs e x))=0
  ·rw[if_pos hz] at hl0
   rw[if_neg (fun h=>h hz)]
   have hall:=(qdD _ e).1 hz
   have herr:∀ x∈e,qqB (qhs e x)=0:=by
    intro x hx
    have:=hall x hx
    unfold qbL at this
    split at this
    ·cases this
    ·exact this
   have hb:∀ x∈e,quv x:=by
    intro x hx
    have:=qqC (herr x hx) (by unfold qhs;rw[List.length_map];have:=qtd e hT x hx;omega)
    unfold quv
    unfold qhs at this
    dsimp only at this
    omega
   have htw:=qwb hL hC.f232 hC.f195 e hl hf hb ps hps
   cases hw:qib e ps with
   | true =>
     rw[hw] at htw
     rw[if_pos rfl]
     unfold fn165
     simp -implicitDefEqProofs only[ev_,aOp,opd,qaa,qaA,qbq,qaz,qab,qag,leaf,qap,qac,qaf,qaj,qav,ren,renC,qaW,qbc,↓reduceIte,reduceCtorEq,Nat.reduceEqDiff,Nat.reduceLT,frz,frzC,qiF,qay,qal,qah,htree,hl0,htw,hdE,qan L hp,hp,bne]
   | false =>
     rw[hw] at htw
     rw[if_neg (by decide)]
     have hgrow:=fun h=>hC.grow e h hl hf hT hg
     have hfit:TFit (qbw e):=qp5 e hT.ahead hf hb _ (by have:=hT.pos;omega)
     have hsz:=qh9 e hT
     have hfl:=qqE (qbw e) ([],[])
     rw[List.length_nil,Nat.zero_add,hsz] at hfl
     have hfree:=qsY hL hC.prims hC.f236 hC.f196 hC.f167 (qbw e) hfit (by omega) (by omega)
     have hfo:(qd7 (qbw e)).length<2 ^ 30:=by
      unfold qd7 qcg
      rw[qeb,List.length_map]
      omega
     have hl1:=qwE hC ps (qd7 (qbw e)) hps hfo
     simp only[Int.natCast_zero] at hl1
     generalize qd7 (qbw e)=fs at *
     obtain⟨tc,htc,hdt⟩:=qcf (qbw e)
     rw[htc] at hgrow hfree
     cases hx:fs.any fun n => !qrH ps n with
     | true =>
       simp only[hx,if_true] at hl1
       rw[if_pos rfl]
       unfold fn165
       simp -implicitDefEqProofs only[ev_,aOp,opd,qaa,qaA,qbq,qaz,qab,qag,leaf,qap,qac,qaf,qaj,qav,ren,renC,qaW,qbc,↓reduceIte,reduceCtorEq,Nat.reduceEqDiff,Nat.reduceLT,frz,frzC,qiF,qay,qal,qah,htree,hl0,htw,hgrow,hfree,hl1,hdE,hdt,qeG,qan L hp,hp,bne]
     | false =>
       simp only[hx,Bool.false_eq_true,if_false] at hl1
       rw[if_neg (by decide)]
       unfold fn165
       simp -implicitDefEqProofs only[ev_,aOp,opd,qaa,qaA,qbq,qaz,qab,qag,leaf,qap,qac,qaf,qaj,qav,ren,renC,qaW,qbc,↓reduceIte,reduceCtorEq,Nat.reduceEqDiff,Nat.reduceLT,frz,frzC,qiF,qay,qal,qah,htree,hl0,htw,hgrow,hfree,hl1,hdE,hdt,qeG,qan L hp,hp,bne]
  ·rw[if_neg hz] at hl0
   rw[if_pos hz]
   generalize qbG (e.map fun x=>qbL flat (qhs e x))=r at *
   unfold fn165
   simp -implicitDefEqProofs only[ev_,aOp,opd,qaa,qaA,qbq,qaz,qab,qag,leaf,qap,qac,qaf,qaj,qav,ren,renC,qaW,qbc,↓reduceIte,reduceCtorEq,Nat.reduceEqDiff,Nat.reduceLT,frz,frzC,qiF,qay,qal,qah,htree,hl0,hdE,qan L hp,hp,bne]
 ·have hz':(qek e==0)=false:=by simpa using ht
  rw[if_pos ht]
  unfold fn165
  simp -implicitDefEqProofs only[ev_,aOp,opd,qaa,qaA,qaz,qab,qag,qap,qac,qaf,qaj,↓reduceIte,Nat.reduceEqDiff,qay,qal,htree,hz',hdE,qan L hp,hp,bne]
def qa2 (e:List CExpr):Int:=qjl e [] false
theorem qmo (e:List CExpr) (hl:e.length<2 ^ 30) (hf:∀ x∈e,NodeFit x) (h:Heap):pcall L 134 [.list (e.map qam) none] h=some (.val (.int .i64 (qa2 e)),h):=by
 have hL:=hC.plain
 have hp:=hL.pure
 have hdE:=qaY e
 refine qa5 hL hC.f134 rfl ?_ h
 have hb:=qwF hC e hl hf [] (by simp) false
 unfold qa2 fn134
 simp -implicitDefEqProofs only[ev_,aOp,opd,qap,qac,qaf,qaj,↓reduceIte,reduceCtorEq,qay,hdE,qan L hp,hp]
 simp only[List.map_nil] at hb
 simp -implicitDefEqProofs only[ev_,↓reduceIte,qal,hb]
end
theorem qhD:∀ (a b:List CTree),qat (a++b)=qat a+qat b
 | [],b=>by rw[List.nil_append,qat];omega
 | x::a,b=>by rw[List.cons_append,qat,qat,qhD a b];omega
theorem qko:∀ (ks:List CTree) (b:Nat),(qbk ks b).length=ks.length
 | [],b=>rfl
 | k::ks,b=>by rw[qbk,List.length_cons,qko ks];rfl
theorem qkA (ks:List CTree) (j:Nat):qat (ks.take j)≤qat ks:=by
 conv=>rhs;rw[← List.take_append_drop j ks,qhD]
 omega
section
variable {L:Lib} (hL:Plain L)
include hL
def hB (op n:Int) (binds:List Int) (outs:List CExpr) (ids:List Int) (j:Nat):Heap :=
 if j=0 then [.box [.func 187 [] [.ptr (some (0,0)),.ptr (some (1,0))]],.box [.list [] (some none)],.box [.int .i64 op,.int .i64 n,.list (binds.map qau) none,.list [] (some none),.list [] (some none)]]
 else [.box [.func 187 [] [.ptr (some (0,0)),.ptr (some (1,0))]],.box [.list (outs.map qam) (some (some 3))],.box [.int .i64 op,.int .i64 n,.list (binds.map qau) none,.list (ids.map qau) (some (some 4)),.list [] (some none)],.tail outs.length 5,.tail j 1]
end
end Go.Abs
