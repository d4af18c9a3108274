/-
  PARTS OF A PROOF, joined: an abstract machine for quiet code, its evaluation, and what the seat's functions answer on it. Conditions: none.
-/
import Derived.Test.YtpchghpipgpkfaaDoorN
import Derived.Test.YtpchghpipgpkfaaDoorC
set_option linter.unusedVariables false
set_option linter.unusedSimpArgs false
set_option maxRecDepth 100000
set_option maxHeartbeats 4000000
namespace Go.Abs
theorem qja:∀ (as:List CAlt) (b:Int),b≤qbe b as∧∀ a∈as,(a.binds.length:Int)≤qbe b as
 | [],b=>⟨Int.le_refl _,by simp⟩
 | a :: as,b => by
   obtain⟨h1,h2⟩:=qja as (max b (a.binds.length:Int))
   have e:qbe b (a::as)=qbe (max b (a.binds.length:Int)) as:=rfl
   rw[e]
   refine⟨by omega,fun x hx=>?_⟩
   rcases List.mem_cons.1 hx with rfl | hx
   ·omega
   ·exact h2 x hx
theorem qg9 {op n:Int} {binds:List Int} {kl:Nat} {as:List CAlt} (h:qcG op n binds kl as=0):qbe binds.length as≤16:=by
 unfold qcG at h
 split at h
 ·cases h
 ·split at h
  ·cases h
  ·split at h
   ·cases h
   ·split at h
    ·cases h
    ·rename_i ht
     unfold qjW at ht
     simp only[Bool.or_eq_true,decide_eq_true_eq,not_or] at ht
     have:=ht.1.1.1
     split at this<;>omega
theorem qqG {op n:Int} {bl kl:Nat} {as:List CAlt} (h:qa7 op n bl kl as=true):as.length=0∨kl=as.length+1:=by
 unfold qa7 at h
 split at h
 ·simp only[Bool.and_eq_true] at h
  have:=h.1.1
  unfold qiP at this
  simp only[Bool.and_eq_true,beq_iff_eq] at this
  right
  omega
 ·split at h
  ·cases h
  ·unfold qbI at h
   simp only[Bool.and_eq_true,beq_iff_eq] at h
   left
   omega
theorem qqc (as:List CAlt) (h:∀ a∈as,a.binds.length≤16):(as.flatMap (·.binds)).length≤16*as.length:=by
 induction as with
 | nil=>simp
 | cons a as ih =>
   rw[List.flatMap_cons,List.length_append,List.length_cons]
   have:=h a (by simp)
   have:=ih fun x hx=>h x (by simp[hx])
   omega
theorem qo8 {l:Lab} (h:qqb l=0) (hk:l.kops.length≤4096):(l.binds++l.alts.flatMap (·.binds)).length≤16+16*4096:=by
 unfold qqb at h
 split at h
 ·cases h
 ·rename_i hs
  have hs:qa7 l.op l.n l.binds.length l.kops.length l.alts=true:=by simpa using hs
  split at h
  ·rename_i hr;exact absurd h hr
  ·rename_i hr
   have hr:qcG l.op l.n l.binds l.kops.length l.alts=0:=Classical.not_not.1 hr
   have hf:=qg9 hr
   obtain⟨h1,h2⟩:=qja l.alts (l.binds.length:Int)
   have h3:=qqc l.alts fun a ha=>by have:=h2 a ha;omega
   rw[List.length_append]
   rcases qqG hs with h4 | h4<;>omega
theorem qqm (e:List CExpr) (h:TreeL e):(e.flatMap (·.kids)).length+1=e.length:=by
 have h1:=(qdO e h).length_eq
 rw[List.length_range,List.length_cons] at h1
 have h2:((List.range e.length).flatMap (qbj e)).length=(e.flatMap (·.kids)).length:=by
  have h3:e=(List.range e.length).map fun i=>(e[i]?).getD ⟨0,0,[],[],[]⟩:=by
   refine List.ext_getElem (by simp) fun i h1 h2=>?_
   simp[h1]
  conv=>rhs;rw[h3,List.flatMap_map]
  rw[List.length_flatMap,List.length_flatMap]
  congr 1
  refine List.map_congr_left fun i hi=>?_
  have hi:=List.mem_range.1 hi
  unfold qbj
  simp[hi]
 omega
theorem qr0 (e:List CExpr) (h:TreeL e) (x:CExpr) (hx:x∈e):x.kids.length≤e.length:=by
 have h1:=qqm e h
 obtain⟨s,t,rfl⟩:=List.append_of_mem hx
 rw[List.flatMap_append,List.flatMap_cons,List.length_append,List.length_append] at h1
 omega
theorem quN {β:Type} (v:Int) (b:β) (m:IM β):(qpB v b m).length≤m.length+1:=by
 have hins:∀ m:IM β,(qlz v b m).length=m.length+1:=by
  intro m
  induction m with
  | nil=>rfl
  | cons p m ih=>unfold qlz;split<;>simp[ih]
 unfold qpB
 split
 ·unfold qnj;simp
 ·rw[hins];omega
mutual
theorem qpc:∀ (t:CTree) (s:FS),(qdS t s).2.length≤s.2.length+qaM t
 | .mk op n binds kids alts,s => by
   rw[qdS,qaM]
   have:=qmw op binds alts kids 0 (qdM op n s)
   have h2:(qdM op n s).2.length≤s.2.length+1:=by
    unfold qdM
    split
    ·exact quN _ _ _
    ·omega
   omega
theorem qmw (op:Int) (binds:List Int) (alts:List CAlt):∀ (ks:List CTree) (k:Nat) (s:FS),(qd0 op binds alts ks k s).2.length≤s.2.length+qaz ks
 | [],k,s=>by rw[qd0];omega
 | kid :: ks,k,s => by
   rw[qd0,qaz]
   have h1:=qmw op binds alts ks (k+1) ((qco op binds alts k).foldl (qf6 (-1)) (qdS kid ((qco op binds alts k).foldl (qf6 1) s.1,s.2)).1,(qdS kid ((qco op binds alts k).foldl (qf6 1) s.1,s.2)).2)
   have h2:=qpc kid ((qco op binds alts k).foldl (qf6 1) s.1,s.2)
   dsimp only at h1 h2
   omega
end
theorem qoF (e:List CExpr) (hk:qeO e) (hf:∀ x∈e,NodeFit x) (hb:∀ x∈e,qtp x):∀ i,i<e.length→TFit (qbk e i):=by
 intro i
 induction i using Nat.strongRecOn with
 | ind i ih =>
   intro hi
   rw[qcK e hk i hi]
   have hx:=hf e[i] (List.getElem_mem hi)
   refine .mk _ _ _ _ _ (hb e[i] (List.getElem_mem hi)) (by rw[List.length_map];exact hx.kids) hx.alts ?_
   intro k hkm
   obtain⟨q,hq,rfl⟩:=List.mem_map.1 hkm
   obtain⟨q0,q1⟩:=hk i hi q hq
   exact ih q.toNat (by omega) (by omega)
def qyk (flat:Bool) (op:Int):Bool:=(flat && qil op) || (!flat && qim op)
def qb5 (flat:Bool) (l:Lab):Int:=if qyk flat l.op=true then 3 else qqb l
def qiR (e:List CExpr) (ps:List Int) (flat:Bool):Int :=
 if qeJ e≠0 then qeJ e
 else if qbE (e.map fun x=>qb5 flat (qfP e x))≠0 then qbE (e.map fun x=>qb5 flat (qfP e x))
 else if qhE e ps=true then 7
 else if ((qf4 (qbn e)).any fun n => !qqQ ps n)=true then 6 else 0
theorem qdj {α:Type} (g:α→Int):∀ (l:List α),qbE (l.map g)=0↔∀ x∈l,g x=0
 | []=>by simp[qbE]
 | x :: l => by
   rw[List.map_cons,qbE]
   by_cases h:g x=0
   ·rw[if_pos h,qdj g l]
    simp[h]
   ·rw[if_neg h]
    simp[h]
structure CLib (L:Lib):Prop where
 plain:Plain L
 prims:CPrims L qa1
 f134:L.fns 134=some fn134
 f151:L.fns 151=some fn151
 grow:∀ (e:List CExpr) (h:Heap),e.length<2 ^ 30→(∀ x∈e,NodeFit x)→TreeL e→hgt (qbn e)≤400→pcall L 160 [.list (e.map qal) none] h=some (.val (qaB (qbn e)),h)
 f165:L.fns 165=some fn165
 f167:L.fns 167=some fn167
 f181:L.fns 181=some fn181
 f190:L.fns 190=some fn190
 f191:L.fns 191=some fn191
 f192:L.fns 192=some fn192
 f193:L.fns 193=some fn193
 f194:L.fns 194=some fn194
 f195:L.fns 195=some fn195
 f196:L.fns 196=some fn196
 f232:L.fns 232=some fn232
 f234:L.fns 234=some fn234
 f235:L.fns 235=some fn235
 f236:L.fns 236=some fn236
 f258:L.fns 258=some fn258
 f259:L.fns 259=some fn259
 f264:L.fns 264=some fn264
 f265:L.fns 265=some fn265
 f266:L.fns 266=some fn266
section
variable {L:Lib} (hC:CLib L)
include hC
theorem qvD (e:List CExpr) (hl:e.length<2 ^ 30) (hf:∀ x∈e,NodeFit x) (hk:qeO e) (ps:List Int) (flat:Bool) :
  qa5 L.pure (call L) 1 [1,2,3,18,19,20] [1,3,6] 0 qcZ ⟨kt [1,2,3,18,19,20] [.list (ps.map qaw) none,.bool flat,.vptr [.list (e.map qal) none] 0,.list (e.map qal) none,.int .i64 e.length,.int .i64 ((0:Nat):Int)],[.gone]⟩ =
  some (if qbE (e.map fun x=>qb5 flat (qfP e x))=0 then (.normal,⟨kt [1,3,6] [.list (ps.map qaw) none,.vptr [.list (e.map qal) none] 0,.junk],[.gone]⟩)
   else (.ret,⟨kt [1,3,6] [.list (ps.map qaw) none,.vptr [.list (e.map qal) none] 0,.int .i64 (qbE (e.map fun x=>qb5 flat (qfP e x)))],[.gone]⟩)):=by
 have hL:=hC.plain
 have hp:=hL.pure
 have hdE:=qaJ e
 have hround:∀ (i:Nat) (hi:i<e.length),qa4 L.pure (call L) 1 [1,2,3,18,19,20] [1,3,6] qcZ ⟨kt [1,2,3,18,19,20] [.list (ps.map qaw) none,.bool flat,.vptr [.list (e.map qal) none] 0,.list (e.map qal) none,.int .i64 e.length,.int .i64 i],[.gone]⟩ =
   some (if qb5 flat (qfP e e[i])=0 then (.normal,⟨kt [1,2,3,18,19,20] [.list (ps.map qaw) none,.bool flat,.vptr [.list (e.map qal) none] 0,.list (e.map qal) none,.int .i64 e.length,.int .i64 ((i+1:Nat):Int)],[.gone]⟩)
    else (.ret,⟨kt [1,3,6] [.list (ps.map qaw) none,.vptr [.list (e.map qal) none] 0,.int .i64 (qb5 flat (qfP e e[i]))],[.gone]⟩)):=by
  intro i hi
  obtain⟨h1,h2,h3⟩:=qaN qal e hl i hi
  have hn:=qxt hL hC.f265 hC.f264 hC.f266 hC.f258 hC.f259 hC.f234 hC.f235 hC.f194 hC.f193 e e[i] (hf e[i] (List.getElem_mem hi)) (fun k hkm=>by have:=hk i hi k hkm;omega)
  have c1:=qoa hL hC.f191 e[i].op
  have c2:=qoe hL hC.f192 e[i].op
  unfold qoq at hn
  unfold qb5
  have hop:(qfP e e[i]).op=e[i].op:=rfl
  rw[hop]
  generalize qfP e e[i]=lb at *
  generalize e[i]=x at *
  rw[qaS] at hn
  unfold qyk
  cases flat with
  | true =>
    cases hc:qil x.op with
    | true =>
      rw[hc] at c1
      unfold qcZ
      simp -implicitDefEqProofs only[ev_,aOp,opd,qaa,qaq,qau,qat,qad,qab,qaf,qag,qaK,qaL,qah,leaf,qap,gcE,qav,ren,renC,qa3,qbd,↓reduceIte,Nat.reduceEqDiff,Nat.reduceAdd,Nat.reduceLeDiff,Int.reduceEq,qar,qaS,qai,h1,h2,h3,c1,hdE,qam L hp,hp]
    | false =>
      rw[hc] at c1
      by_cases hz:qqb lb=0
      ·rw[hz] at hn
       unfold qcZ
       simp -implicitDefEqProofs only[ev_,aOp,opd,qaa,qaq,qau,qat,aUn,qad,qab,qaf,qag,qaK,qaL,qah,leaf,qap,qav,ren,renC,qa3,qbd,↓reduceIte,Nat.reduceEqDiff,Nat.reduceAdd,Nat.reduceLeDiff,qar,qaS,qai,qao,h1,h2,h3,c1,hn,hz,hdE,qam L hp,hp,bne]
      ·have hz':(qqb lb==0)=false:=by simpa using hz
       unfold qcZ
       simp -implicitDefEqProofs only[ev_,aOp,opd,qaa,qaq,qau,qat,aUn,qad,qab,qaf,qag,qaK,qaL,qah,leaf,qap,gcE,qav,ren,renC,qa3,qbd,↓reduceIte,Nat.reduceEqDiff,Nat.reduceAdd,Nat.reduceLeDiff,qar,qaS,qai,qao,h1,h2,h3,c1,hn,hz,hz',hdE,qam L hp,hp,bne]
  | false =>
    cases hc:qim x.op with
    | true =>
      rw[hc] at c2
      unfold qcZ
      simp -implicitDefEqProofs only[ev_,aOp,opd,qaa,qaq,qau,qat,aUn,qad,qab,qaf,qag,qaK,qaL,qah,leaf,qap,gcE,qav,ren,renC,qa3,qbd,↓reduceIte,Nat.reduceEqDiff,Nat.reduceAdd,Nat.reduceLeDiff,Int.reduceEq,qar,qaS,qai,h1,h2,h3,c2,hdE,qam L hp,hp]
    | false =>
      rw[hc] at c2
      by_cases hz:qqb lb=0
      ·rw[hz] at hn
       unfold qcZ
       simp -implicitDefEqProofs only[ev_,aOp,opd,qaa,qaq,qau,qat,aUn,qad,qab,qaf,qag,qaK,qaL,qah,leaf,qap,qav,ren,renC,qa3,qbd,↓reduceIte,Nat.reduceEqDiff,Nat.reduceAdd,Nat.reduceLeDiff,qar,qaS,qai,qao,h1,h2,h3,c2,hn,hz,hdE,qam L hp,hp,bne]
      ·have hz':(qqb lb==0)=false:=by simpa using hz
       unfold qcZ
       simp -implicitDefEqProofs only[ev_,aOp,opd,qaa,qaq,qau,qat,aUn,qad,qab,qaf,qag,qaK,qaL,qah,leaf,qap,gcE,qav,ren,renC,qa3,qbd,↓reduceIte,Nat.reduceEqDiff,Nat.reduceAdd,Nat.reduceLeDiff,qar,qaS,qai,qao,h1,h2,h3,c2,hn,hz,hz',hdE,qam L hp,hp,bne]
 refine qsb e (fun x=>qb5 flat (qfP e x)) (fun i=>⟨kt [1,2,3,18,19,20] [.list (ps.map qaw) none,.bool flat,.vptr [.list (e.map qal) none] 0,.list (e.map qal) none,.int .i64 e.length,.int .i64 i],[.gone]⟩) _
  (fun r=>⟨kt [1,3,6] [.list (ps.map qaw) none,.vptr [.list (e.map qal) none] 0,.int .i64 r],[.gone]⟩) ?_ ?_ ?_
 ·intro i hi hz
  rw[hround i hi,if_pos hz]
 ·intro i hi hz
  rw[hround i hi,if_neg hz]
 ·have h0:=qaO e.length
  unfold qcZ
  simp -implicitDefEqProofs only[ev_,aOp,opd,qaa,qau,qat,qab,gcE,qav,ren,renC,qa3,qbd,↓reduceIte,Nat.reduceEqDiff,qai,h0,hdE]
theorem qvE (ps fs:List Int) (hps:ps.length<2 ^ 30) (hfs:fs.length<2 ^ 30) :
  qa5 L.pure (call L) 1 [1,51,52,53] [6] 2 qgK ⟨kt [1,51,52,53] [.list (ps.map qaw) none,.list (fs.map qaw) none,.int .i64 fs.length,.int .i64 ((0:Nat):Int)],[.gone]⟩ =
  some (if (fs.any fun n => !qqQ ps n)=true then (.ret,⟨kt [6] [.int .i64 6],[.gone]⟩) else (.normal,⟨kt [6] [.junk],[.gone]⟩)):=by
 have hL:=hC.plain
 have hp:=hL.pure
 refine qe8 fs (fun n => !qqQ ps n) (fun i=>⟨kt [1,51,52,53] [.list (ps.map qaw) none,.list (fs.map qaw) none,.int .i64 fs.length,.int .i64 i],[.gone]⟩) _ _ ?_ ?_ ?_
 ·intro i hi hq
  obtain⟨h1,h2,h3⟩:=qaN qaw fs hfs i hi
  have hc:=qi5 hL hC.f181 hC.f151 ps hps fs[i]
  have hq:qqQ ps fs[i]=true:=by simpa using hq
  rw[hq] at hc
  generalize fs[i]=a at *
  unfold qgK
  simp -implicitDefEqProofs only[ev_,aOp,opd,qaa,qau,qat,aUn,qad,qab,qag,qav,ren,renC,qa3,qbd,↓reduceIte,Nat.reduceEqDiff,qar,qbg,qai,h1,h2,h3,hc,qam L hp,hp]
 ·intro i hi hq
  obtain⟨h1,h2,h3⟩:=qaN qaw fs hfs i hi
  have hc:=qi5 hL hC.f181 hC.f151 ps hps fs[i]
  have hq:qqQ ps fs[i]=false:=by simpa using hq
  rw[hq] at hc
  generalize fs[i]=a at *
  unfold qgK
  simp -implicitDefEqProofs only[ev_,aOp,opd,qaa,qau,qat,aUn,qad,qab,qag,gcE,qav,ren,renC,qa3,qbd,↓reduceIte,Nat.reduceEqDiff,qar,qbg,qai,h1,h2,h3,hc,qam L hp,hp]
 ·have h0:=qaO fs.length
  unfold qgK
  simp -implicitDefEqProofs only[ev_,aOp,opd,qaa,qau,qat,qab,gcE,qav,ren,renC,qa3,qbd,↓reduceIte,Nat.reduceEqDiff,h0]
theorem qvF (e:List CExpr) (hl:e.length<2 ^ 30) (hf:∀ x∈e,NodeFit x) (ps:List Int) (hps:ps.length<2 ^ 30) (flat:Bool) (h:Heap) :
  pcall L 165 [.list (e.map qal) none,.list (ps.map qaw) none,.bool flat] h=some (.val (.int .i64 (qiR e ps flat)),h):=by
 have hL:=hC.plain
 have hp:=hL.pure
 have hdE:=qaJ e
 refine qaX hL hC.f165 rfl ?_ h
 have htree:=qxK hL hC.f190 e hf hl
 unfold qiR
 by_cases ht:qeJ e=0
 ·have htz:=(qfk e).1 ht
  obtain⟨hT,hn,hg⟩:=htz
  have hne:e≠[]:=fun h=>by have:=hT.pos;rw[h] at this;simp at this
  have hl0:=qvD hC e hl hf hT.ahead ps flat
  simp only[Int.natCast_zero] at hl0
  rw[if_neg (fun h=>h ht)]
  rw[ht] at htree
  by_cases hz:qbE (e.map fun x=>qb5 flat (qfP e x))=0
  ·rw[if_pos hz] at hl0
   rw[if_neg (fun h=>h hz)]
   have hall:=(qdj _ e).1 hz
   have herr:∀ x∈e,qqb (qfP e x)=0:=by
    intro x hx
    have:=hall x hx
    unfold qb5 at this
    split at this
    ·cases this
    ·exact this
   have hb:∀ x∈e,qtp x:=by
    intro x hx
    have:=qo8 (herr x hx) (by unfold qfP;rw[List.length_map];have:=qr0 e hT x hx;omega)
    unfold qtp
    unfold qfP at this
    dsimp only at this
    omega
   have htw:=qu6 hL hC.f232 hC.f195 e hl hf hb ps hps
   cases hw:qhE e ps with
   | true =>
     rw[hw] at htw
     rw[if_pos rfl]
     unfold fn165
     simp -implicitDefEqProofs only[ev_,aOp,opd,qaa,qau,qbc,qat,qab,qag,leaf,qan,qac,qae,qaj,qav,ren,renC,qa3,qbd,↓reduceIte,reduceCtorEq,Nat.reduceEqDiff,Nat.reduceLT,frz,frzC,qj5,qar,qak,qai,htree,hl0,htw,hdE,qam L hp,hp,bne]
   | false =>
     rw[hw] at htw
     rw[if_neg (by decide)]
     have hgrow:=fun h=>hC.grow e h hl hf hT hg
     have hfit:TFit (qbn e):=qoF e hT.ahead hf hb _ (by have:=hT.pos;omega)
     have hsz:=qfV e hT
     have hfl:=qpc (qbn e) ([],[])
     rw[List.length_nil,Nat.zero_add,hsz] at hfl
     have hfree:=qrJ hL hC.prims hC.f236 hC.f196 hC.f167 (qbn e) hfit (by omega) (by omega)
     have hfo:(qf4 (qbn e)).length<2 ^ 30:=by
      unfold qf4 qd4
      rw[qdP,List.length_map]
      omega
     have hl1:=qvE hC ps (qf4 (qbn e)) hps hfo
     simp only[Int.natCast_zero] at hl1
     generalize qf4 (qbn e)=fs at *
     obtain⟨tc,htc,hdt⟩:=qcc (qbn e)
     rw[htc] at hgrow hfree
     cases hx:fs.any fun n => !qqQ ps n with
     | true =>
       simp only[hx,if_true] at hl1
       rw[if_pos rfl]
       unfold fn165
       simp -implicitDefEqProofs only[ev_,aOp,opd,qaa,qau,qbc,qat,qab,qag,leaf,qan,qac,qae,qaj,qav,ren,renC,qa3,qbd,↓reduceIte,reduceCtorEq,Nat.reduceEqDiff,Nat.reduceLT,frz,frzC,qj5,qar,qak,qai,htree,hl0,htw,hgrow,hfree,hl1,hdE,hdt,qfm,qam L hp,hp,bne]
     | false =>
       simp only[hx,Bool.false_eq_true,if_false] at hl1
       rw[if_neg (by decide)]
       unfold fn165
       simp -implicitDefEqProofs only[ev_,aOp,opd,qaa,qau,qbc,qat,qab,qag,leaf,qan,qac,qae,qaj,qav,ren,renC,qa3,qbd,↓reduceIte,reduceCtorEq,Nat.reduceEqDiff,Nat.reduceLT,frz,frzC,qj5,qar,qak,qai,htree,hl0,htw,hgrow,hfree,hl1,hdE,hdt,qfm,qam L hp,hp,bne]
  ·rw[if_neg hz] at hl0
   rw[if_pos hz]
   generalize qbE (e.map fun x=>qb5 flat (qfP e x))=r at *
   unfold fn165
   simp -implicitDefEqProofs only[ev_,aOp,opd,qaa,qau,qbc,qat,qab,qag,leaf,qan,qac,qae,qaj,qav,ren,renC,qa3,qbd,↓reduceIte,reduceCtorEq,Nat.reduceEqDiff,Nat.reduceLT,frz,frzC,qj5,qar,qak,qai,htree,hl0,hdE,qam L hp,hp,bne]
 ·have hz':(qeJ e==0)=false:=by simpa using ht
  rw[if_pos ht]
  unfold fn165
  simp -implicitDefEqProofs only[ev_,aOp,opd,qaa,qau,qat,qab,qag,qan,qac,qae,qaj,↓reduceIte,Nat.reduceEqDiff,qar,qak,htree,hz',hdE,qam L hp,hp,bne]
def qaR (e:List CExpr):Int:=qiR e [] false
theorem qik (e:List CExpr) (hl:e.length<2 ^ 30) (hf:∀ x∈e,NodeFit x) (h:Heap):pcall L 134 [.list (e.map qal) none] h=some (.val (.int .i64 (qaR e)),h):=by
 have hL:=hC.plain
 have hp:=hL.pure
 have hdE:=qaJ e
 refine qaX hL hC.f134 rfl ?_ h
 have hb:=qvF hC e hl hf [] (by simp) false
 unfold qaR fn134
 simp -implicitDefEqProofs only[ev_,aOp,opd,qan,qac,qae,qaj,↓reduceIte,reduceCtorEq,qar,hdE,qam L hp,hp]
 simp only[List.map_nil] at hb
 simp -implicitDefEqProofs only[ev_,↓reduceIte,qak,hb]
end
theorem qhe:∀ (a b:List CTree),qaz (a++b)=qaz a+qaz b
 | [],b=>by rw[List.nil_append,qaz];omega
 | x::a,b=>by rw[List.cons_append,qaz,qaz,qhe a b];omega
theorem qjN:∀ (ks:List CTree) (b:Nat),(qbi ks b).length=ks.length
 | [],b=>rfl
 | k::ks,b=>by rw[qbi,List.length_cons,qjN ks];rfl
theorem qjY (ks:List CTree) (j:Nat):qaz (ks.take j)≤qaz ks:=by
 conv=>rhs;rw[← List.take_append_drop j ks,qhe]
 omega
section
variable {L:Lib} (hL:Plain L)
include hL
def hB (op n:Int) (binds:List Int) (outs:List CExpr) (ids:List Int) (j:Nat):Heap :=
 if j=0 then [.box [.func 187 [] [.ptr (some (0,0)),.ptr (some (1,0))]],.box [.list [] (some none)],.box [.int .i64 op,.int .i64 n,.list (binds.map qaw) none,.list [] (some none),.list [] (some none)]]
 else [.box [.func 187 [] [.ptr (some (0,0)),.ptr (some (1,0))]],.box [.list (outs.map qal) (some (some 3))],.box [.int .i64 op,.int .i64 n,.list (binds.map qaw) none,.list (ids.map qaw) (some (some 4)),.list [] (some none)],.tail outs.length 5,.tail j 1]
end
end Go.Abs
