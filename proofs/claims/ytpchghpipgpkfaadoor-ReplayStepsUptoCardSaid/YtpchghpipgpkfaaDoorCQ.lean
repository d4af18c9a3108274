/-
  PARTS OF A PROOF, joined: an abstract machine for quiet code, its evaluation, and what the seat's functions answer on it. Conditions: none.
-/
import Derived.Test.YtpchghpipgpkfaaDoorN
import Derived.Test.YtpchghpipgpkfaaDoorC
set_option linter.unusedVariables false
set_option linter.unusedSimpArgs false
set_option maxRecDepth 100000
set_option maxHeartbeats 4000000
namespace Go.Abs
theorem qjw:∀ (as:List CAlt) (b:Int),b≤qbj b as∧∀ a∈as,(a.binds.length:Int)≤qbj b as
 | [],b=>⟨Int.le_refl _,by simp⟩
 | a :: as,b => by
   obtain⟨h1,h2⟩:=qjw as (max b (a.binds.length:Int))
   have e:qbj b (a::as)=qbj (max b (a.binds.length:Int)) as:=rfl
   rw[e]
   refine⟨by omega,fun x hx=>?_⟩
   rcases List.mem_cons.1 hx with rfl | hx
   ·omega
   ·exact h2 x hx
theorem qhy {op n:Int} {binds:List Int} {kl:Nat} {as:List CAlt} (h:qcN op n binds kl as=0):qbj binds.length as≤16:=by
 unfold qcN at h
 split at h
 ·cases h
 ·split at h
  ·cases h
  ·split at h
   ·cases h
   ·split at h
    ·cases h
    ·rename_i ht
     unfold qkl at ht
     simp only[Bool.or_eq_true,decide_eq_true_eq,not_or] at ht
     have:=ht.1.1.1
     split at this<;>omega
theorem qq9 {op n:Int} {bl kl:Nat} {as:List CAlt} (h:qbd op n bl kl as=true):as.length=0∨kl=as.length+1:=by
 unfold qbd at h
 split at h
 ·simp only[Bool.and_eq_true] at h
  have:=h.1.1
  unfold qjd at this
  simp only[Bool.and_eq_true,beq_iff_eq] at this
  right
  omega
 ·split at h
  ·cases h
  ·unfold qbN at h
   simp only[Bool.and_eq_true,beq_iff_eq] at h
   left
   omega
theorem qqC (as:List CAlt) (h:∀ a∈as,a.binds.length≤16):(as.flatMap (·.binds)).length≤16*as.length:=by
 induction as with
 | nil=>simp
 | cons a as ih =>
   rw[List.flatMap_cons,List.length_append,List.length_cons]
   have:=h a (by simp)
   have:=ih fun x hx=>h x (by simp[hx])
   omega
theorem qpA {l:Lab} (h:qqB l=0) (hk:l.kops.length≤4096):(l.binds++l.alts.flatMap (·.binds)).length≤16+16*4096:=by
 unfold qqB at h
 split at h
 ·cases h
 ·rename_i hs
  have hs:qbd l.op l.n l.binds.length l.kops.length l.alts=true:=by simpa using hs
  split at h
  ·rename_i hr;exact absurd h hr
  ·rename_i hr
   have hr:qcN l.op l.n l.binds l.kops.length l.alts=0:=Classical.not_not.1 hr
   have hf:=qhy hr
   obtain⟨h1,h2⟩:=qjw l.alts (l.binds.length:Int)
   have h3:=qqC l.alts fun a ha=>by have:=h2 a ha;omega
   rw[List.length_append]
   rcases qq9 hs with h4 | h4<;>omega
theorem qqM (e:List CExpr) (h:TreeL e):(e.flatMap (·.kids)).length+1=e.length:=by
 have h1:=(qd4 e h).length_eq
 rw[List.length_range,List.length_cons] at h1
 have h2:((List.range e.length).flatMap (qbo e)).length=(e.flatMap (·.kids)).length:=by
  have h3:e=(List.range e.length).map fun i=>(e[i]?).getD ⟨0,0,[],[],[]⟩:=by
   refine List.ext_getElem (by simp) fun i h1 h2=>?_
   simp[h1]
  conv=>rhs;rw[h3,List.flatMap_map]
  rw[List.length_flatMap,List.length_flatMap]
  congr 1
  refine List.map_congr_left fun i hi=>?_
  have hi:=List.mem_range.1 hi
  unfold qbo
  simp[hi]
 omega
theorem qsw (e:List CExpr) (h:TreeL e) (x:CExpr) (hx:x∈e):x.kids.length≤e.length:=by
 have h1:=qqM e h
 obtain⟨s,t,rfl⟩:=List.append_of_mem hx
 rw[List.flatMap_append,List.flatMap_cons,List.length_append,List.length_append] at h1
 omega
theorem qvl {β:Type} (v:Int) (b:β) (m:IM β):(qoV v b m).length≤m.length+1:=by
 have hins:∀ m:IM β,(qlW v b m).length=m.length+1:=by
  intro m
  induction m with
  | nil=>rfl
  | cons p m ih=>unfold qlW;split<;>simp[ih]
 unfold qoV
 split
 ·unfold qnG;simp
 ·rw[hins];omega
mutual
theorem qpE:∀ (t:CTree) (s:FS),(qd8 t s).2.length≤s.2.length+qaP t
 | .mk op n binds kids alts,s => by
   rw[qd8,qaP]
   have:=qmT op binds alts kids 0 (qd3 op n s)
   have h2:(qd3 op n s).2.length≤s.2.length+1:=by
    unfold qd3
    split
    ·exact qvl _ _ _
    ·omega
   omega
theorem qmT (op:Int) (binds:List Int) (alts:List CAlt):∀ (ks:List CTree) (k:Nat) (s:FS),(qeh op binds alts ks k s).2.length≤s.2.length+qaB ks
 | [],k,s=>by rw[qeh];omega
 | kid :: ks,k,s => by
   rw[qeh,qaB]
   have h1:=qmT op binds alts ks (k+1) ((qcw op binds alts k).foldl (qgr (-1)) (qd8 kid ((qcw op binds alts k).foldl (qgr 1) s.1,s.2)).1,(qd8 kid ((qcw op binds alts k).foldl (qgr 1) s.1,s.2)).2)
   have h2:=qpE kid ((qcw op binds alts k).foldl (qgr 1) s.1,s.2)
   dsimp only at h1 h2
   omega
end
theorem qo4 (e:List CExpr) (hk:qe5 e) (hf:∀ x∈e,NodeFit x) (hb:∀ x∈e,qtW x):∀ i,i<e.length→TFit (qbp e i):=by
 intro i
 induction i using Nat.strongRecOn with
 | ind i ih =>
   intro hi
   rw[qcR e hk i hi]
   have hx:=hf e[i] (List.getElem_mem hi)
   refine .mk _ _ _ _ _ (hb e[i] (List.getElem_mem hi)) (by rw[List.length_map];exact hx.kids) hx.alts ?_
   intro k hkm
   obtain⟨q,hq,rfl⟩:=List.mem_map.1 hkm
   obtain⟨q0,q1⟩:=hk i hi q hq
   exact ih q.toNat (by omega) (by omega)
def qyS (flat:Bool) (op:Int):Bool:=(flat && qiK op) || (!flat && qiL op)
def qb6 (flat:Bool) (l:Lab):Int:=if qyS flat l.op=true then 3 else qqB l
def qjf (e:List CExpr) (ps:List Int) (flat:Bool):Int :=
 if qeZ e≠0 then qeZ e
 else if qbJ (e.map fun x=>qb6 flat (qgc e x))≠0 then qbJ (e.map fun x=>qb6 flat (qgc e x))
 else if qh3 e ps=true then 7
 else if ((qgp (qa0 e)).any fun n => !qrk ps n)=true then 6 else 0
theorem qdA {α:Type} (g:α→Int):∀ (l:List α),qbJ (l.map g)=0↔∀ x∈l,g x=0
 | []=>by simp[qbJ]
 | x :: l => by
   rw[List.map_cons,qbJ]
   by_cases h:g x=0
   ·rw[if_pos h,qdA g l]
    simp[h]
   ·rw[if_neg h]
    simp[h]
structure CLib (L:Lib):Prop where
 plain:Plain L
 prims:CPrims L qa5
 f134:L.fns 134=some fn134
 f151:L.fns 151=some fn151
 grow:∀ (e:List CExpr) (h:Heap),e.length<2 ^ 30→(∀ x∈e,NodeFit x)→TreeL e→hgt (qa0 e)≤400→pcall L 160 [.list (e.map qam) none] h=some (.val (qar (qa0 e)),h)
 f165:L.fns 165=some fn165
 f167:L.fns 167=some fn167
 f181:L.fns 181=some fn181
 f190:L.fns 190=some fn190
 f191:L.fns 191=some fn191
 f192:L.fns 192=some fn192
 f193:L.fns 193=some fn193
 f194:L.fns 194=some fn194
 f195:L.fns 195=some fn195
 f196:L.fns 196=some fn196
 f232:L.fns 232=some fn232
 f234:L.fns 234=some fn234
 f235:L.fns 235=some fn235
 f236:L.fns 236=some fn236
 f258:L.fns 258=some fn258
 f259:L.fns 259=some fn259
 f264:L.fns 264=some fn264
 f265:L.fns 265=some fn265
 f266:L.fns 266=some fn266
section
variable {L:Lib} (hC:CLib L)
include hC
theorem qv9 (e:List CExpr) (hl:e.length<2 ^ 30) (hf:∀ x∈e,NodeFit x) (hk:qe5 e) (ps:List Int) (flat:Bool) :
  qa6 L.pure (call L) 1 [1,2,3,18,19,20] [1,3,6] 0 qdc ⟨kt [1,2,3,18,19,20] [.list (ps.map qau) none,.bool flat,.vptr [.list (e.map qam) none] 0,.list (e.map qam) none,.int .i64 e.length,.int .i64 ((0:Nat):Int)],[.gone]⟩ =
  some (if qbJ (e.map fun x=>qb6 flat (qgc e x))=0 then (.normal,⟨kt [1,3,6] [.list (ps.map qau) none,.vptr [.list (e.map qam) none] 0,.junk],[.gone]⟩)
   else (.ret,⟨kt [1,3,6] [.list (ps.map qau) none,.vptr [.list (e.map qam) none] 0,.int .i64 (qbJ (e.map fun x=>qb6 flat (qgc e x)))],[.gone]⟩)):=by
 have hL:=hC.plain
 have hp:=hL.pure
 have hdE:=qaz e
 have hround:∀ (i:Nat) (hi:i<e.length),qa8 L.pure (call L) 1 [1,2,3,18,19,20] [1,3,6] qdc ⟨kt [1,2,3,18,19,20] [.list (ps.map qau) none,.bool flat,.vptr [.list (e.map qam) none] 0,.list (e.map qam) none,.int .i64 e.length,.int .i64 i],[.gone]⟩ =
   some (if qb6 flat (qgc e e[i])=0 then (.normal,⟨kt [1,2,3,18,19,20] [.list (ps.map qau) none,.bool flat,.vptr [.list (e.map qam) none] 0,.list (e.map qam) none,.int .i64 e.length,.int .i64 ((i+1:Nat):Int)],[.gone]⟩)
    else (.ret,⟨kt [1,3,6] [.list (ps.map qau) none,.vptr [.list (e.map qam) none] 0,.int .i64 (qb6 flat (qgc e e[i]))],[.gone]⟩)):=by
  intro i hi
  obtain⟨h1,h2,h3⟩:=qaR qam e hl i hi
  have hn:=qxX hL hC.f265 hC.f264 hC.f266 hC.f258 hC.f259 hC.f234 hC.f235 hC.f194 hC.f193 e e[i] (hf e[i] (List.getElem_mem hi)) (fun k hkm=>by have:=hk i hi k hkm;omega)
  have c1:=qoz hL hC.f191 e[i].op
  have c2:=qoC hL hC.f192 e[i].op
  unfold qoO at hn
  unfold qb6
  have hop:(qgc e e[i]).op=e[i].op:=rfl
  rw[hop]
  generalize qgc e e[i]=lb at *
  generalize e[i]=x at *
  rw[qaT] at hn
  unfold qyS
  cases flat with
  | true =>
    cases hc:qiK x.op with
    | true =>
      rw[hc] at c1
      unfold qdc
      simp -implicitDefEqProofs only[ev_,aOp,opd,qaa,qas,qay,qax,qad,qab,qaf,qag,qaN,qaQ,qai,leaf,qap,gcE,qav,ren,renC,qa1,qba,↓reduceIte,Nat.reduceEqDiff,Nat.reduceAdd,Nat.reduceLeDiff,Int.reduceEq,qat,qaT,qah,h1,h2,h3,c1,hdE,qal L hp,hp]
    | false =>
      rw[hc] at c1
      by_cases hz:qqB lb=0
      ·rw[hz] at hn
       unfold qdc
       simp -implicitDefEqProofs only[ev_,aOp,opd,qaa,qas,qay,qax,aUn,qad,qab,qaf,qag,qaN,qaQ,qai,leaf,qap,qav,ren,renC,qa1,qba,↓reduceIte,Nat.reduceEqDiff,Nat.reduceAdd,Nat.reduceLeDiff,qat,qaT,qah,qan,h1,h2,h3,c1,hn,hz,hdE,qal L hp,hp,bne]
      ·have hz':(qqB lb==0)=false:=by simpa using hz
       unfold qdc
       simp -implicitDefEqProofs only[ev_,aOp,opd,qaa,qas,qay,qax,aUn,qad,qab,qaf,qag,qaN,qaQ,qai,leaf,qap,gcE,qav,ren,renC,qa1,qba,↓reduceIte,Nat.reduceEqDiff,Nat.reduceAdd,Nat.reduceLeDiff,qat,qaT,qah,qan,h1,h2,h3,c1,hn,hz,hz',hdE,qal L hp,hp,bne]
  | false =>
    cases hc:qiL x.op with
    | true =>
      rw[hc] at c2
      unfold qdc
      simp -implicitDefEqProofs only[ev_,aOp,opd,qaa,qas,qay,qax,aUn,qad,qab,qaf,qag,qaN,qaQ,qai,leaf,qap,gcE,qav,ren,renC,qa1,qba,↓reduceIte,Nat.reduceEqDiff,Nat.reduceAdd,Nat.reduceLeDiff,Int.reduceEq,qat,qaT,qah,h1,h2,h3,c2,hdE,qal L hp,hp]
    | false =>
      rw[hc] at c2
      by_cases hz:qqB lb=0
      ·rw[hz] at hn
       unfold qdc
       simp -implicitDefEqProofs only[ev_,aOp,opd,qaa,qas,qay,qax,aUn,qad,qab,qaf,qag,qaN,qaQ,qai,leaf,qap,qav,ren,renC,qa1,qba,↓reduceIte,Nat.reduceEqDiff,Nat.reduceAdd,Nat.reduceLeDiff,qat,qaT,qah,qan,h1,h2,h3,c2,hn,hz,hdE,qal L hp,hp,bne]
      ·have hz':(qqB lb==0)=false:=by simpa using hz
       unfold qdc
       simp -implicitDefEqProofs only[ev_,aOp,opd,qaa,qas,qay,qax,aUn,qad,qab,qaf,qag,qaN,qaQ,qai,leaf,qap,gcE,qav,ren,renC,qa1,qba,↓reduceIte,Nat.reduceEqDiff,Nat.reduceAdd,Nat.reduceLeDiff,qat,qaT,qah,qan,h1,h2,h3,c2,hn,hz,hz',hdE,qal L hp,hp,bne]
 refine qsG e (fun x=>qb6 flat (qgc e x)) (fun i=>⟨kt [1,2,3,18,19,20] [.list (ps.map qau) none,.bool flat,.vptr [.list (e.map qam) none] 0,.list (e.map qam) none,.int .i64 e.length,.int .i64 i],[.gone]⟩) _
  (fun r=>⟨kt [1,3,6] [.list (ps.map qau) none,.vptr [.list (e.map qam) none] 0,.int .i64 r],[.gone]⟩) ?_ ?_ ?_
 ·intro i hi hz
  rw[hround i hi,if_pos hz]
 ·intro i hi hz
  rw[hround i hi,if_neg hz]
 ·have h0:=qaS e.length
  unfold qdc
  simp -implicitDefEqProofs only[ev_,aOp,opd,qaa,qay,qax,qab,gcE,qav,ren,renC,qa1,qba,↓reduceIte,Nat.reduceEqDiff,qah,h0,hdE]
theorem qwa (ps fs:List Int) (hps:ps.length<2 ^ 30) (hfs:fs.length<2 ^ 30) :
  qa6 L.pure (call L) 1 [1,51,52,53] [6] 2 qhb ⟨kt [1,51,52,53] [.list (ps.map qau) none,.list (fs.map qau) none,.int .i64 fs.length,.int .i64 ((0:Nat):Int)],[.gone]⟩ =
  some (if (fs.any fun n => !qrk ps n)=true then (.ret,⟨kt [6] [.int .i64 6],[.gone]⟩) else (.normal,⟨kt [6] [.junk],[.gone]⟩)):=by
 have hL:=hC.plain
 have hp:=hL.pure
 refine qfq fs (fun n => !qrk ps n) (fun i=>⟨kt [1,51,52,53] [.list (ps.map qau) none,.list (fs.map qau) none,.int .i64 fs.length,.int .i64 i],[.gone]⟩) _ _ ?_ ?_ ?_
 ·intro i hi hq
  obtain⟨h1,h2,h3⟩:=qaR qau fs hfs i hi
  have hc:=qjs hL hC.f181 hC.f151 ps hps fs[i]
  have hq:qrk ps fs[i]=true:=by simpa using hq
  rw[hq] at hc
  generalize fs[i]=a at *
  unfold qhb
  simp -implicitDefEqProofs only[ev_,aOp,opd,qaa,qay,qax,aUn,qad,qab,qag,qav,ren,renC,qa1,qba,↓reduceIte,Nat.reduceEqDiff,qat,qa9,qah,h1,h2,h3,hc,qal L hp,hp]
 ·intro i hi hq
  obtain⟨h1,h2,h3⟩:=qaR qau fs hfs i hi
  have hc:=qjs hL hC.f181 hC.f151 ps hps fs[i]
  have hq:qrk ps fs[i]=false:=by simpa using hq
  rw[hq] at hc
  generalize fs[i]=a at *
  unfold qhb
  simp -implicitDefEqProofs only[ev_,aOp,opd,qaa,qay,qax,aUn,qad,qab,qag,gcE,qav,ren,renC,qa1,qba,↓reduceIte,Nat.reduceEqDiff,qat,qa9,qah,h1,h2,h3,hc,qal L hp,hp]
 ·have h0:=qaS fs.length
  unfold qhb
  simp -implicitDefEqProofs only[ev_,aOp,opd,qaa,qay,qax,qab,gcE,qav,ren,renC,qa1,qba,↓reduceIte,Nat.reduceEqDiff,h0]
theorem qwb (e:List CExpr) (hl:e.length<2 ^ 30) (hf:∀ x∈e,NodeFit x) (ps:List Int) (hps:ps.length<2 ^ 30) (flat:Bool) (h:Heap) :
  pcall L 165 [.list (e.map qam) none,.list (ps.map qau) none,.bool flat] h=some (.val (.int .i64 (qjf e ps flat)),h):=by
 have hL:=hC.plain
 have hp:=hL.pure
 have hdE:=qaz e
 refine qaY hL hC.f165 rfl ?_ h
 have htree:=qyj hL hC.f190 e hf hl
 unfold qjf
 by_cases ht:qeZ e=0
 ·have htz:=(qfE e).1 ht
  obtain⟨hT,hn,hg⟩:=htz
  have hne:e≠[]:=fun h=>by have:=hT.pos;rw[h] at this;simp at this
  have hl0:=qv9 hC e hl hf hT.ahead ps flat
  simp only[Int.natCast_zero] at hl0
  rw[if_neg (fun h=>h ht)]
  rw[ht] at htree
  by_cases hz:qbJ (e.map fun x=>qb6 flat (qgc e x))=0
  ·rw[if_pos hz] at hl0
   rw[if_neg (fun h=>h hz)]
   have hall:=(qdA _ e).1 hz
   have herr:∀ x∈e,qqB (qgc e x)=0:=by
    intro x hx
    have:=hall x hx
    unfold qb6 at this
    split at this
    ·cases this
    ·exact this
   have hb:∀ x∈e,qtW x:=by
    intro x hx
    have:=qpA (herr x hx) (by unfold qgc;rw[List.length_map];have:=qsw e hT x hx;omega)
    unfold qtW
    unfold qgc at this
    dsimp only at this
    omega
   have htw:=qvC hL hC.f232 hC.f195 e hl hf hb ps hps
   cases hw:qh3 e ps with
   | true =>
     rw[hw] at htw
     rw[if_pos rfl]
     unfold fn165
     simp -implicitDefEqProofs only[ev_,aOp,opd,qaa,qay,qbb,qax,qab,qag,leaf,qao,qac,qae,qaj,qav,ren,renC,qa1,qba,↓reduceIte,reduceCtorEq,Nat.reduceEqDiff,Nat.reduceLT,frz,frzC,qjJ,qat,qak,qah,htree,hl0,htw,hdE,qal L hp,hp,bne]
   | false =>
     rw[hw] at htw
     rw[if_neg (by decide)]
     have hgrow:=fun h=>hC.grow e h hl hf hT hg
     have hfit:TFit (qa0 e):=qo4 e hT.ahead hf hb _ (by have:=hT.pos;omega)
     have hsz:=qgh e hT
     have hfl:=qpE (qa0 e) ([],[])
     rw[List.length_nil,Nat.zero_add,hsz] at hfl
     have hfree:=qsf hL hC.prims hC.f236 hC.f196 hC.f167 (qa0 e) hfit (by omega) (by omega)
     have hfo:(qgp (qa0 e)).length<2 ^ 30:=by
      unfold qgp qel
      rw[qd5,List.length_map]
      omega
     have hl1:=qwa hC ps (qgp (qa0 e)) hps hfo
     simp only[Int.natCast_zero] at hl1
     generalize qgp (qa0 e)=fs at *
     obtain⟨tc,htc,hdt⟩:=qbu (qa0 e)
     rw[htc] at hgrow hfree
     cases hx:fs.any fun n => !qrk ps n with
     | true =>
       simp only[hx,if_true] at hl1
       rw[if_pos rfl]
       unfold fn165
       simp -implicitDefEqProofs only[ev_,aOp,opd,qaa,qay,qbb,qax,qab,qag,leaf,qao,qac,qae,qaj,qav,ren,renC,qa1,qba,↓reduceIte,reduceCtorEq,Nat.reduceEqDiff,Nat.reduceLT,frz,frzC,qjJ,qat,qak,qah,htree,hl0,htw,hgrow,hfree,hl1,hdE,hdt,qfG,qal L hp,hp,bne]
     | false =>
       simp only[hx,Bool.false_eq_true,if_false] at hl1
       rw[if_neg (by decide)]
       unfold fn165
       simp -implicitDefEqProofs only[ev_,aOp,opd,qaa,qay,qbb,qax,qab,qag,leaf,qao,qac,qae,qaj,qav,ren,renC,qa1,qba,↓reduceIte,reduceCtorEq,Nat.reduceEqDiff,Nat.reduceLT,frz,frzC,qjJ,qat,qak,qah,htree,hl0,htw,hgrow,hfree,hl1,hdE,hdt,qfG,qal L hp,hp,bne]
  ·rw[if_neg hz] at hl0
   rw[if_pos hz]
   generalize qbJ (e.map fun x=>qb6 flat (qgc e x))=r at *
   unfold fn165
   simp -implicitDefEqProofs only[ev_,aOp,opd,qaa,qay,qbb,qax,qab,qag,leaf,qao,qac,qae,qaj,qav,ren,renC,qa1,qba,↓reduceIte,reduceCtorEq,Nat.reduceEqDiff,Nat.reduceLT,frz,frzC,qjJ,qat,qak,qah,htree,hl0,hdE,qal L hp,hp,bne]
 ·have hz':(qeZ e==0)=false:=by simpa using ht
  rw[if_pos ht]
  unfold fn165
  simp -implicitDefEqProofs only[ev_,aOp,opd,qaa,qay,qax,qab,qag,qao,qac,qae,qaj,↓reduceIte,Nat.reduceEqDiff,qat,qak,htree,hz',hdE,qal L hp,hp,bne]
def qaL (e:List CExpr):Int:=qjf e [] false
theorem qdx (e:List CExpr) (hl:e.length<2 ^ 30) (hf:∀ x∈e,NodeFit x) (h:Heap):pcall L 134 [.list (e.map qam) none] h=some (.val (.int .i64 (qaL e)),h):=by
 have hL:=hC.plain
 have hp:=hL.pure
 have hdE:=qaz e
 refine qaY hL hC.f134 rfl ?_ h
 have hb:=qwb hC e hl hf [] (by simp) false
 unfold qaL fn134
 simp -implicitDefEqProofs only[ev_,aOp,opd,qao,qac,qae,qaj,↓reduceIte,reduceCtorEq,qat,hdE,qal L hp,hp]
 simp only[List.map_nil] at hb
 simp -implicitDefEqProofs only[ev_,↓reduceIte,qak,hb]
end
theorem qe0:∀ (a b:List CTree),qaB (a++b)=qaB a+qaB b
 | [],b=>by rw[List.nil_append,qaB];omega
 | x::a,b=>by rw[List.cons_append,qaB,qaB,qe0 a b];omega
theorem qgK:∀ (ks:List CTree) (k:CTree) (b:Nat),qaK (ks++[k]) b=qaK ks b++qcq k (b+qaB ks)
 | [],k,b=>by rw[List.nil_append,qaK,qaK,qaK,qaB,List.append_nil];rfl
 | x :: ks,k,b => by
   rw[List.cons_append,qaK,qaK,qgK ks k,qaB,List.append_assoc,Nat.add_assoc]
theorem qfx:∀ (ks:List CTree) (k:CTree) (b:Nat),qaM (ks++[k]) b=qaM ks b++[((b+qaB ks+qaP k-1:Nat):Int)]
 | [],k,b=>by rw[List.nil_append,qaM,qaM,qaM,qaB];rfl
 | x :: ks,k,b => by
   rw[List.cons_append,qaM,qaM,qfx ks k,qaB]
   rw[show b+qaP x+qaB ks+qaP k-1=b+(qaP x+qaB ks)+qaP k-1 by omega]
   rfl
theorem qdV:∀ (ks:List CTree) (b:Nat),(qaM ks b).length=ks.length
 | [],b=>rfl
 | k::ks,b=>by rw[qaM,List.length_cons,qdV ks];rfl
theorem qkn (ks:List CTree) (j:Nat) (hj:j<ks.length):qaB (ks.take (j+1))=qaB (ks.take j)+qaP ks[j]:=by
 rw[List.take_succ_eq_append_getElem hj,qe0,qaB,qaB]
 omega
theorem qfF (ks:List CTree) (j:Nat):qaB (ks.take j)≤qaB ks:=by
 conv=>rhs;rw[← List.take_append_drop j ks,qe0]
 omega
section
variable {L:Lib} (hL:Plain L)
include hL
def hB (op n:Int) (binds:List Int) (outs:List CExpr) (ids:List Int) (j:Nat):Heap :=
 if j=0 then [.box [.func 187 [] [.ptr (some (0,0)),.ptr (some (1,0))]],.box [.list [] (some none)],.box [.int .i64 op,.int .i64 n,.list (binds.map qau) none,.list [] (some none),.list [] (some none)]]
 else [.box [.func 187 [] [.ptr (some (0,0)),.ptr (some (1,0))]],.box [.list (outs.map qam) (some (some 3))],.box [.int .i64 op,.int .i64 n,.list (binds.map qau) none,.list (ids.map qau) (some (some 4)),.list [] (some none)],.tail outs.length 5,.tail j 1]
end
end Go.Abs
