/-
  PARTS OF A PROOF, joined: an abstract machine for quiet code, its evaluation, and what the seat's functions answer on it. Conditions: none.
-/
import Derived.Test.YtjbgooldkkbdmaaDoorN
import Derived.Test.YtjbgooldkkbdmaaDoorC
set_option linter.unusedVariables false
set_option linter.unusedSimpArgs false
set_option maxRecDepth 100000
set_option maxHeartbeats 4000000
namespace Go.Abs
theorem qi4:∀ (as:List CAlt) (b:Int),b≤qaW b as∧∀ a∈as,(a.binds.length:Int)≤qaW b as
 | [],b=>⟨Int.le_refl _,by simp⟩
 | a :: as,b => by
   obtain⟨h1,h2⟩:=qi4 as (max b (a.binds.length:Int))
   have e:qaW b (a::as)=qaW (max b (a.binds.length:Int)) as:=rfl
   rw[e]
   refine⟨by omega,fun x hx=>?_⟩
   rcases List.mem_cons.1 hx with rfl | hx
   ·omega
   ·exact h2 x hx
theorem qg9 {op n:Int} {binds:List Int} {kl:Nat} {as:List CAlt} (h:qbX op n binds kl as=0):qaW binds.length as≤16:=by
 unfold qbX at h
 split at h
 ·cases h
 ·split at h
  ·cases h
  ·split at h
   ·cases h
   ·split at h
    ·cases h
    ·rename_i ht
     unfold qjO at ht
     simp only[Bool.or_eq_true,decide_eq_true_eq,not_or] at ht
     have:=ht.1.1.1
     split at this<;>omega
theorem qkU {op n:Int} {bl kl:Nat} {as:List CAlt} (h:qbA op n bl kl as=true):as.length=0∨kl=as.length+1:=by
 unfold qbA at h
 split at h
 ·simp only[Bool.and_eq_true] at h
  have:=h.1.1
  unfold qgE at this
  simp only[Bool.and_eq_true,beq_iff_eq] at this
  right
  omega
 ·split at h
  ·cases h
  ·unfold qdD at h
   simp only[Bool.and_eq_true,beq_iff_eq] at h
   left
   omega
theorem qkq (as:List CAlt) (h:∀ a∈as,a.binds.length≤16):(as.flatMap (·.binds)).length≤16*as.length:=by
 induction as with
 | nil=>simp
 | cons a as ih =>
   rw[List.flatMap_cons,List.length_append,List.length_cons]
   have:=h a (by simp)
   have:=ih fun x hx=>h x (by simp[hx])
   omega
theorem qoO {l:Lab} (h:qnR l=0) (hk:l.kops.length≤4096):(l.binds++l.alts.flatMap (·.binds)).length≤16+16*4096:=by
 unfold qnR at h
 split at h
 ·cases h
 ·rename_i hs
  have hs:qbA l.op l.n l.binds.length l.kops.length l.alts=true:=by simpa using hs
  split at h
  ·rename_i hr;exact absurd h hr
  ·rename_i hr
   have hr:qbX l.op l.n l.binds l.kops.length l.alts=0:=Classical.not_not.1 hr
   have hf:=qg9 hr
   obtain⟨h1,h2⟩:=qi4 l.alts (l.binds.length:Int)
   have h3:=qkq l.alts fun a ha=>by have:=h2 a ha;omega
   rw[List.length_append]
   rcases qkU hs with h4 | h4<;>omega
theorem qp0 (e:List CExpr) (h:TreeL e):(e.flatMap (·.kids)).length+1=e.length:=by
 have h1:=(qfs e h).length_eq
 rw[List.length_range,List.length_cons] at h1
 have h2:((List.range e.length).flatMap (qbw e)).length=(e.flatMap (·.kids)).length:=by
  have h3:e=(List.range e.length).map fun i=>(e[i]?).getD ⟨0,0,[],[],[]⟩:=by
   refine List.ext_getElem (by simp) fun i h1 h2=>?_
   simp[h1]
  conv=>rhs;rw[h3,List.flatMap_map]
  rw[List.length_flatMap,List.length_flatMap]
  congr 1
  refine List.map_congr_left fun i hi=>?_
  have hi:=List.mem_range.1 hi
  unfold qbw
  simp[hi]
 omega
theorem qrH (e:List CExpr) (h:TreeL e) (x:CExpr) (hx:x∈e):x.kids.length≤e.length:=by
 have h1:=qp0 e h
 obtain⟨s,t,rfl⟩:=List.append_of_mem hx
 rw[List.flatMap_append,List.flatMap_cons,List.length_append,List.length_append] at h1
 omega
theorem qur {β:Type} (v:Int) (b:β) (m:IM β):(qgw v b m).length≤m.length+1:=by
 have hins:∀ m:IM β,(qlp v b m).length=m.length+1:=by
  intro m
  induction m with
  | nil=>rfl
  | cons p m ih=>unfold qlp;split<;>simp[ih]
 unfold qgw
 split
 ·unfold qm6;simp
 ·rw[hins];omega
mutual
theorem qoS:∀ (t:CTree) (s:FS),(qdz t s).2.length≤s.2.length+qbs t
 | .mk op n binds kids alts,s => by
   rw[qdz,qbs]
   have:=qmf op binds alts kids 0 (qc0 op n s)
   have h2:(qc0 op n s).2.length≤s.2.length+1:=by
    unfold qc0
    split
    ·exact qur _ _ _
    ·omega
   omega
theorem qmf (op:Int) (binds:List Int) (alts:List CAlt):∀ (ks:List CTree) (k:Nat) (s:FS),(qdr op binds alts ks k s).2.length≤s.2.length+qaE ks
 | [],k,s=>by rw[qdr];omega
 | kid :: ks,k,s => by
   rw[qdr,qaE]
   have h1:=qmf op binds alts ks (k+1) ((qaQ op binds alts k).foldl (qgc (-1)) (qdz kid ((qaQ op binds alts k).foldl (qgc 1) s.1,s.2)).1,(qdz kid ((qaQ op binds alts k).foldl (qgc 1) s.1,s.2)).2)
   have h2:=qoS kid ((qaQ op binds alts k).foldl (qgc 1) s.1,s.2)
   dsimp only at h1 h2
   omega
end
theorem qsG (e:List CExpr) (hk:qh9 e) (hf:∀ x∈e,NodeFit x) (hb:∀ x∈e,qs0 x):∀ i,i<e.length→TFit (qd7 e i):=by
 intro i
 induction i using Nat.strongRecOn with
 | ind i ih =>
   intro hi
   rw[qfz e hk i hi]
   have hx:=hf e[i] (List.getElem_mem hi)
   refine .mk _ _ _ _ _ (hb e[i] (List.getElem_mem hi)) (by rw[List.length_map];exact hx.kids) hx.alts ?_
   intro k hkm
   obtain⟨q,hq,rfl⟩:=List.mem_map.1 hkm
   obtain⟨q0,q1⟩:=hk i hi q hq
   exact ih q.toNat (by omega) (by omega)
def qxt (flat:Bool) (op:Int):Bool:=(flat && qik op) || (!flat && qil op)
def qbR (flat:Bool) (l:Lab):Int:=if qxt flat l.op=true then 3 else qnR l
def qiM (e:List CExpr) (ps:List Int) (flat:Bool):Int :=
 if qec e≠0 then qec e
 else if qbE (e.map fun x=>qbR flat (qhd e x))≠0 then qbE (e.map fun x=>qbR flat (qhd e x))
 else if qhF e ps=true then 7
 else if ((qdP (qbg e)).any fun n => !qpS ps n)=true then 6 else 0
theorem qdx {α:Type} (g:α→Int):∀ (l:List α),qbE (l.map g)=0↔∀ x∈l,g x=0
 | []=>by simp[qbE]
 | x :: l => by
   rw[List.map_cons,qbE]
   by_cases h:g x=0
   ·rw[if_pos h,qdx g l]
    simp[h]
   ·rw[if_neg h]
    simp[h]
structure CLib (L:Lib):Prop where
 plain:Plain L
 prims:CPrims L qa1
 f134:L.fns 134=some fn134
 f151:L.fns 151=some fn151
 grow:∀ (e:List CExpr) (h:Heap),e.length<2 ^ 30→(∀ x∈e,NodeFit x)→TreeL e→hgt (qbg e)≤400→pcall L 160 [.list (e.map qal) none] h=some (.val (qaB (qbg e)),h)
 f165:L.fns 165=some fn165
 f167:L.fns 167=some fn167
 f181:L.fns 181=some fn181
 f190:L.fns 190=some fn190
 f191:L.fns 191=some fn191
 f192:L.fns 192=some fn192
 f193:L.fns 193=some fn193
 f194:L.fns 194=some fn194
 f195:L.fns 195=some fn195
 f196:L.fns 196=some fn196
 f232:L.fns 232=some fn232
 f234:L.fns 234=some fn234
 f235:L.fns 235=some fn235
 f236:L.fns 236=some fn236
 f258:L.fns 258=some fn258
 f259:L.fns 259=some fn259
 f264:L.fns 264=some fn264
 f265:L.fns 265=some fn265
 f266:L.fns 266=some fn266
section
variable {L:Lib} (hC:CLib L)
include hC
theorem qvb (e:List CExpr) (hl:e.length<2 ^ 30) (hf:∀ x∈e,NodeFit x) (hk:qh9 e) (ps:List Int) (flat:Bool) :
  qbl L.pure (call L) 1 [1,2,3,18,19,20] [1,3,6] 0 qdh ⟨kt [1,2,3,18,19,20] [.list (ps.map qau) none,.bool flat,.vptr [.list (e.map qal) none] 0,.list (e.map qal) none,.int .i64 e.length,.int .i64 ((0:Nat):Int)],[.gone]⟩ =
  some (if qbE (e.map fun x=>qbR flat (qhd e x))=0 then (.normal,⟨kt [1,3,6] [.list (ps.map qau) none,.vptr [.list (e.map qal) none] 0,.junk],[.gone]⟩)
   else (.ret,⟨kt [1,3,6] [.list (ps.map qau) none,.vptr [.list (e.map qal) none] 0,.int .i64 (qbE (e.map fun x=>qbR flat (qhd e x)))],[.gone]⟩)):=by
 have hL:=hC.plain
 have hp:=hL.pure
 have hdE:=qaY e
 have hround:∀ (i:Nat) (hi:i<e.length),qbk L.pure (call L) 1 [1,2,3,18,19,20] [1,3,6] qdh ⟨kt [1,2,3,18,19,20] [.list (ps.map qau) none,.bool flat,.vptr [.list (e.map qal) none] 0,.list (e.map qal) none,.int .i64 e.length,.int .i64 i],[.gone]⟩ =
   some (if qbR flat (qhd e e[i])=0 then (.normal,⟨kt [1,2,3,18,19,20] [.list (ps.map qau) none,.bool flat,.vptr [.list (e.map qal) none] 0,.list (e.map qal) none,.int .i64 e.length,.int .i64 ((i+1:Nat):Int)],[.gone]⟩)
    else (.ret,⟨kt [1,3,6] [.list (ps.map qau) none,.vptr [.list (e.map qal) none] 0,.int .i64 (qbR flat (qhd e e[i]))],[.gone]⟩)):=by
  intro i hi
  obtain⟨h1,h2,h3⟩:=qaT qal e hl i hi
  have hn:=qwx hL hC.f265 hC.f264 hC.f266 hC.f258 hC.f259 hC.f234 hC.f235 hC.f194 hC.f193 e e[i] (hf e[i] (List.getElem_mem hi)) (fun k hkm=>by have:=hk i hi k hkm;omega)
  have c1:=qnP hL hC.f191 e[i].op
  have c2:=qnS hL hC.f192 e[i].op
  unfold qn6 at hn
  unfold qbR
  have hop:(qhd e e[i]).op=e[i].op:=rfl
  rw[hop]
  generalize qhd e e[i]=lb at *
  generalize e[i]=x at *
  rw[qaZ] at hn
  unfold qxt
  cases flat with
  | true =>
    cases hc:qik x.op with
    | true =>
      rw[hc] at c1
      unfold qdh
      simp -implicitDefEqProofs only[ev_,aOp,opd,qaa,qat,qaD,qaC,qae,qab,qaf,qag,qaP,qaN,qak,leaf,qaq,gcE,qas,ren,renC,qa0,qbh,↓reduceIte,Nat.reduceEqDiff,Nat.reduceAdd,Nat.reduceLeDiff,Int.reduceEq,qay,qaZ,qac,h1,h2,h3,c1,hdE,qap L hp,hp]
    | false =>
      rw[hc] at c1
      by_cases hz:qnR lb=0
      ·rw[hz] at hn
       unfold qdh
       simp -implicitDefEqProofs only[ev_,aOp,opd,qaa,qat,qaD,qaC,aUn,qae,qab,qaf,qag,qaP,qaN,qak,leaf,qaq,qas,ren,renC,qa0,qbh,↓reduceIte,Nat.reduceEqDiff,Nat.reduceAdd,Nat.reduceLeDiff,qay,qaZ,qac,qah,h1,h2,h3,c1,hn,hz,hdE,qap L hp,hp,bne]
      ·have hz':(qnR lb==0)=false:=by simpa using hz
       unfold qdh
       simp -implicitDefEqProofs only[ev_,aOp,opd,qaa,qat,qaD,qaC,aUn,qae,qab,qaf,qag,qaP,qaN,qak,leaf,qaq,gcE,qas,ren,renC,qa0,qbh,↓reduceIte,Nat.reduceEqDiff,Nat.reduceAdd,Nat.reduceLeDiff,qay,qaZ,qac,qah,h1,h2,h3,c1,hn,hz,hz',hdE,qap L hp,hp,bne]
  | false =>
    cases hc:qil x.op with
    | true =>
      rw[hc] at c2
      unfold qdh
      simp -implicitDefEqProofs only[ev_,aOp,opd,qaa,qat,qaD,qaC,aUn,qae,qab,qaf,qag,qaP,qaN,qak,leaf,qaq,gcE,qas,ren,renC,qa0,qbh,↓reduceIte,Nat.reduceEqDiff,Nat.reduceAdd,Nat.reduceLeDiff,Int.reduceEq,qay,qaZ,qac,h1,h2,h3,c2,hdE,qap L hp,hp]
    | false =>
      rw[hc] at c2
      by_cases hz:qnR lb=0
      ·rw[hz] at hn
       unfold qdh
       simp -implicitDefEqProofs only[ev_,aOp,opd,qaa,qat,qaD,qaC,aUn,qae,qab,qaf,qag,qaP,qaN,qak,leaf,qaq,qas,ren,renC,qa0,qbh,↓reduceIte,Nat.reduceEqDiff,Nat.reduceAdd,Nat.reduceLeDiff,qay,qaZ,qac,qah,h1,h2,h3,c2,hn,hz,hdE,qap L hp,hp,bne]
      ·have hz':(qnR lb==0)=false:=by simpa using hz
       unfold qdh
       simp -implicitDefEqProofs only[ev_,aOp,opd,qaa,qat,qaD,qaC,aUn,qae,qab,qaf,qag,qaP,qaN,qak,leaf,qaq,gcE,qas,ren,renC,qa0,qbh,↓reduceIte,Nat.reduceEqDiff,Nat.reduceAdd,Nat.reduceLeDiff,qay,qaZ,qac,qah,h1,h2,h3,c2,hn,hz,hz',hdE,qap L hp,hp,bne]
 refine qrN e (fun x=>qbR flat (qhd e x)) (fun i=>⟨kt [1,2,3,18,19,20] [.list (ps.map qau) none,.bool flat,.vptr [.list (e.map qal) none] 0,.list (e.map qal) none,.int .i64 e.length,.int .i64 i],[.gone]⟩) _
  (fun r=>⟨kt [1,3,6] [.list (ps.map qau) none,.vptr [.list (e.map qal) none] 0,.int .i64 r],[.gone]⟩) ?_ ?_ ?_
 ·intro i hi hz
  rw[hround i hi,if_pos hz]
 ·intro i hi hz
  rw[hround i hi,if_neg hz]
 ·have h0:=qaU e.length
  unfold qdh
  simp -implicitDefEqProofs only[ev_,aOp,opd,qaa,qaD,qaC,qab,gcE,qas,ren,renC,qa0,qbh,↓reduceIte,Nat.reduceEqDiff,qac,h0,hdE]
theorem qvc (ps fs:List Int) (hps:ps.length<2 ^ 30) (hfs:fs.length<2 ^ 30) :
  qbl L.pure (call L) 1 [1,51,52,53] [6] 2 qgP ⟨kt [1,51,52,53] [.list (ps.map qau) none,.list (fs.map qau) none,.int .i64 fs.length,.int .i64 ((0:Nat):Int)],[.gone]⟩ =
  some (if (fs.any fun n => !qpS ps n)=true then (.ret,⟨kt [6] [.int .i64 6],[.gone]⟩) else (.normal,⟨kt [6] [.junk],[.gone]⟩)):=by
 have hL:=hC.plain
 have hp:=hL.pure
 refine qjm fs (fun n => !qpS ps n) (fun i=>⟨kt [1,51,52,53] [.list (ps.map qau) none,.list (fs.map qau) none,.int .i64 fs.length,.int .i64 i],[.gone]⟩) _ _ ?_ ?_ ?_
 ·intro i hi hq
  obtain⟨h1,h2,h3⟩:=qaT qau fs hfs i hi
  have hc:=qi1 hL hC.f181 hC.f151 ps hps fs[i]
  have hq:qpS ps fs[i]=true:=by simpa using hq
  rw[hq] at hc
  generalize fs[i]=a at *
  unfold qgP
  simp -implicitDefEqProofs only[ev_,aOp,opd,qaa,qaD,qaC,aUn,qae,qab,qag,qas,ren,renC,qa0,qbh,↓reduceIte,Nat.reduceEqDiff,qay,qba,qac,h1,h2,h3,hc,qap L hp,hp]
 ·intro i hi hq
  obtain⟨h1,h2,h3⟩:=qaT qau fs hfs i hi
  have hc:=qi1 hL hC.f181 hC.f151 ps hps fs[i]
  have hq:qpS ps fs[i]=false:=by simpa using hq
  rw[hq] at hc
  generalize fs[i]=a at *
  unfold qgP
  simp -implicitDefEqProofs only[ev_,aOp,opd,qaa,qaD,qaC,aUn,qae,qab,qag,gcE,qas,ren,renC,qa0,qbh,↓reduceIte,Nat.reduceEqDiff,qay,qba,qac,h1,h2,h3,hc,qap L hp,hp]
 ·have h0:=qaU fs.length
  unfold qgP
  simp -implicitDefEqProofs only[ev_,aOp,opd,qaa,qaD,qaC,qab,gcE,qas,ren,renC,qa0,qbh,↓reduceIte,Nat.reduceEqDiff,h0]
theorem qvd (e:List CExpr) (hl:e.length<2 ^ 30) (hf:∀ x∈e,NodeFit x) (ps:List Int) (hps:ps.length<2 ^ 30) (flat:Bool) (h:Heap) :
  pcall L 165 [.list (e.map qal) none,.list (ps.map qau) none,.bool flat] h=some (.val (.int .i64 (qiM e ps flat)),h):=by
 have hL:=hC.plain
 have hp:=hL.pure
 have hdE:=qaY e
 refine qbo hL hC.f165 rfl ?_ h
 have htree:=qwL hL hC.f190 e hf hl
 unfold qiM
 by_cases ht:qec e=0
 ·have htz:=(qfA e).1 ht
  obtain⟨hT,hn,hg⟩:=htz
  have hne:e≠[]:=fun h=>by have:=hT.pos;rw[h] at this;simp at this
  have hl0:=qvb hC e hl hf hT.ahead ps flat
  simp only[Int.natCast_zero] at hl0
  rw[if_neg (fun h=>h ht)]
  rw[ht] at htree
  by_cases hz:qbE (e.map fun x=>qbR flat (qhd e x))=0
  ·rw[if_pos hz] at hl0
   rw[if_neg (fun h=>h hz)]
   have hall:=(qdx _ e).1 hz
   have herr:∀ x∈e,qnR (qhd e x)=0:=by
    intro x hx
    have:=hall x hx
    unfold qbR at this
    split at this
    ·cases this
    ·exact this
   have hb:∀ x∈e,qs0 x:=by
    intro x hx
    have:=qoO (herr x hx) (by unfold qhd;rw[List.length_map];have:=qrH e hT x hx;omega)
    unfold qs0
    unfold qhd at this
    dsimp only at this
    omega
   have htw:=quJ hL hC.f232 hC.f195 e hl hf hb ps hps
   cases hw:qhF e ps with
   | true =>
     rw[hw] at htw
     rw[if_pos rfl]
     unfold fn165
     simp -implicitDefEqProofs only[ev_,aOp,opd,qaa,qaD,qbC,qaC,qab,qag,leaf,qav,qad,qai,qam,qas,ren,renC,qa0,qbh,↓reduceIte,reduceCtorEq,Nat.reduceEqDiff,Nat.reduceLT,frz,frzC,qjV,qay,qaj,qac,htree,hl0,htw,hdE,qap L hp,hp,bne]
   | false =>
     rw[hw] at htw
     rw[if_neg (by decide)]
     have hgrow:=fun h=>hC.grow e h hl hf hT hg
     have hfit:TFit (qbg e):=qsG e hT.ahead hf hb _ (by have:=hT.pos;omega)
     have hsz:=qf3 e hT
     have hfl:=qoS (qbg e) ([],[])
     rw[List.length_nil,Nat.zero_add,hsz] at hfl
     have hfree:=qrp hL hC.prims hC.f236 hC.f196 hC.f167 (qbg e) hfit (by omega) (by omega)
     have hfo:(qdP (qbg e)).length<2 ^ 30:=by
      unfold qdP qch
      rw[qd5,List.length_map]
      omega
     have hl1:=qvc hC ps (qdP (qbg e)) hps hfo
     simp only[Int.natCast_zero] at hl1
     generalize qdP (qbg e)=fs at *
     obtain⟨tc,htc,hdt⟩:=qdv (qbg e)
     rw[htc] at hgrow hfree
     cases hx:fs.any fun n => !qpS ps n with
     | true =>
       simp only[hx,if_true] at hl1
       rw[if_pos rfl]
       unfold fn165
       simp -implicitDefEqProofs only[ev_,aOp,opd,qaa,qaD,qbC,qaC,qab,qag,leaf,qav,qad,qai,qam,qas,ren,renC,qa0,qbh,↓reduceIte,reduceCtorEq,Nat.reduceEqDiff,Nat.reduceLT,frz,frzC,qjV,qay,qaj,qac,htree,hl0,htw,hgrow,hfree,hl1,hdE,hdt,qhc,qap L hp,hp,bne]
     | false =>
       simp only[hx,Bool.false_eq_true,if_false] at hl1
       rw[if_neg (by decide)]
       unfold fn165
       simp -implicitDefEqProofs only[ev_,aOp,opd,qaa,qaD,qbC,qaC,qab,qag,leaf,qav,qad,qai,qam,qas,ren,renC,qa0,qbh,↓reduceIte,reduceCtorEq,Nat.reduceEqDiff,Nat.reduceLT,frz,frzC,qjV,qay,qaj,qac,htree,hl0,htw,hgrow,hfree,hl1,hdE,hdt,qhc,qap L hp,hp,bne]
  ·rw[if_neg hz] at hl0
   rw[if_pos hz]
   generalize qbE (e.map fun x=>qbR flat (qhd e x))=r at *
   unfold fn165
   simp -implicitDefEqProofs only[ev_,aOp,opd,qaa,qaD,qbC,qaC,qab,qag,leaf,qav,qad,qai,qam,qas,ren,renC,qa0,qbh,↓reduceIte,reduceCtorEq,Nat.reduceEqDiff,Nat.reduceLT,frz,frzC,qjV,qay,qaj,qac,htree,hl0,hdE,qap L hp,hp,bne]
 ·have hz':(qec e==0)=false:=by simpa using ht
  rw[if_pos ht]
  unfold fn165
  simp -implicitDefEqProofs only[ev_,aOp,opd,qaa,qaD,qaC,qab,qag,qav,qad,qai,qam,↓reduceIte,Nat.reduceEqDiff,qay,qaj,htree,hz',hdE,qap L hp,hp,bne]
def qa5 (e:List CExpr):Int:=qiM e [] false
theorem qlc (e:List CExpr) (hl:e.length<2 ^ 30) (hf:∀ x∈e,NodeFit x) (h:Heap):pcall L 134 [.list (e.map qal) none] h=some (.val (.int .i64 (qa5 e)),h):=by
 have hL:=hC.plain
 have hp:=hL.pure
 have hdE:=qaY e
 refine qbo hL hC.f134 rfl ?_ h
 have hb:=qvd hC e hl hf [] (by simp) false
 unfold qa5 fn134
 simp -implicitDefEqProofs only[ev_,aOp,opd,qav,qad,qai,qam,↓reduceIte,reduceCtorEq,qay,hdE,qap L hp,hp]
 simp only[List.map_nil] at hb
 simp -implicitDefEqProofs only[ev_,↓reduceIte,qaj,hb]
end
theorem qjE:∀ (ks:List CTree) (b:Nat),(qbj ks b).length=ks.length
 | [],b=>rfl
 | k::ks,b=>by rw[qbj,List.length_cons,qjE ks];rfl
section
variable {L:Lib} (hL:Plain L)
include hL
def hB (op n:Int) (binds:List Int) (outs:List CExpr) (ids:List Int) (j:Nat):Heap :=
 if j=0 then [.box [.func 187 [] [.ptr (some (0,0)),.ptr (some (1,0))]],.box [.list [] (some none)],.box [.int .i64 op,.int .i64 n,.list (binds.map qau) none,.list [] (some none),.list [] (some none)]]
 else [.box [.func 187 [] [.ptr (some (0,0)),.ptr (some (1,0))]],.box [.list (outs.map qal) (some (some 3))],.box [.int .i64 op,.int .i64 n,.list (binds.map qau) none,.list (ids.map qau) (some (some 4)),.list [] (some none)],.tail outs.length 5,.tail j 1]
end
end Go.Abs
