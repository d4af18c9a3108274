/-
  PARTS OF A PROOF, joined: an abstract machine for quiet code, its evaluation, and what the seat's functions answer on it. Conditions: none.
-/
import Derived.Test.YtpchghpipgpkfaaDoorN
import Derived.Test.YtpchghpipgpkfaaDoorC
set_option linter.unusedVariables false
set_option linter.unusedSimpArgs false
set_option maxRecDepth 100000
set_option maxHeartbeats 4000000
namespace Go.Abs
theorem qh7:∀ (as:List CAlt) (b:Int),b≤qbe b as∧∀ a∈as,(a.binds.length:Int)≤qbe b as
 | [],b=>⟨Int.le_refl _,by simp⟩
 | a :: as,b => by
   obtain⟨h1,h2⟩:=qh7 as (max b (a.binds.length:Int))
   have e:qbe b (a::as)=qbe (max b (a.binds.length:Int)) as:=rfl
   rw[e]
   refine⟨by omega,fun x hx=>?_⟩
   rcases List.mem_cons.1 hx with rfl | hx
   ·omega
   ·exact h2 x hx
theorem qfS {op n:Int} {binds:List Int} {kl:Nat} {as:List CAlt} (h:qbZ op n binds kl as=0):qbe binds.length as≤16:=by
 unfold qbZ at h
 split at h
 ·cases h
 ·split at h
  ·cases h
  ·split at h
   ·cases h
   ·split at h
    ·cases h
    ·rename_i ht
     unfold qlQ at ht
     simp only[Bool.or_eq_true,decide_eq_true_eq,not_or] at ht
     have:=ht.1.1.1
     split at this<;>omega
theorem qnb {op n:Int} {bl kl:Nat} {as:List CAlt} (h:qa2 op n bl kl as=true):as.length=0∨kl=as.length+1:=by
 unfold qa2 at h
 split at h
 ·simp only[Bool.and_eq_true] at h
  have:=h.1.1
  unfold qhh at this
  simp only[Bool.and_eq_true,beq_iff_eq] at this
  right
  omega
 ·split at h
  ·cases h
  ·unfold qbN at h
   simp only[Bool.and_eq_true,beq_iff_eq] at h
   left
   omega
theorem qmA (as:List CAlt) (h:∀ a∈as,a.binds.length≤16):(as.flatMap (·.binds)).length≤16*as.length:=by
 induction as with
 | nil=>simp
 | cons a as ih =>
   rw[List.flatMap_cons,List.length_append,List.length_cons]
   have:=h a (by simp)
   have:=ih fun x hx=>h x (by simp[hx])
   omega
theorem qrz {l:Lab} (h:qp8 l=0) (hk:l.kops.length≤4096):(l.binds++l.alts.flatMap (·.binds)).length≤16+16*4096:=by
 unfold qp8 at h
 split at h
 ·cases h
 ·rename_i hs
  have hs:qa2 l.op l.n l.binds.length l.kops.length l.alts=true:=by simpa using hs
  split at h
  ·rename_i hr;exact absurd h hr
  ·rename_i hr
   have hr:qbZ l.op l.n l.binds l.kops.length l.alts=0:=Classical.not_not.1 hr
   have hf:=qfS hr
   obtain⟨h1,h2⟩:=qh7 l.alts (l.binds.length:Int)
   have h3:=qmA l.alts fun a ha=>by have:=h2 a ha;omega
   rw[List.length_append]
   rcases qnb hs with h4 | h4<;>omega
theorem qs0 (e:List CExpr) (h:TreeL e):(e.flatMap (·.kids)).length+1=e.length:=by
 have h1:=(qeN e h).length_eq
 rw[List.length_range,List.length_cons] at h1
 have h2:((List.range e.length).flatMap (qbm e)).length=(e.flatMap (·.kids)).length:=by
  have h3:e=(List.range e.length).map fun i=>(e[i]?).getD ⟨0,0,[],[],[]⟩:=by
   refine List.ext_getElem (by simp) fun i h1 h2=>?_
   simp[h1]
  conv=>rhs;rw[h3,List.flatMap_map]
  rw[List.length_flatMap,List.length_flatMap]
  congr 1
  refine List.map_congr_left fun i hi=>?_
  have hi:=List.mem_range.1 hi
  unfold qbm
  simp[hi]
 omega
theorem qu0 (e:List CExpr) (h:TreeL e) (x:CExpr) (hx:x∈e):x.kids.length≤e.length:=by
 have h1:=qs0 e h
 obtain⟨s,t,rfl⟩:=List.append_of_mem hx
 rw[List.flatMap_append,List.flatMap_cons,List.length_append,List.length_append] at h1
 omega
theorem qx0 {β:Type} (v:Int) (b:β) (m:IM β):(qlv v b m).length≤m.length+1:=by
 have hins:∀ m:IM β,(qnG v b m).length=m.length+1:=by
  intro m
  induction m with
  | nil=>rfl
  | cons p m ih=>unfold qnG;split<;>simp[ih]
 unfold qlv
 split
 ·unfold qpH;simp
 ·rw[hins];omega
mutual
theorem qrD:∀ (t:CTree) (s:FS),(qd9 t s).2.length≤s.2.length+qaJ t
 | .mk op n binds kids alts,s => by
   rw[qd9,qaJ]
   have:=qoH op binds alts kids 0 (qdk op n s)
   have h2:(qdk op n s).2.length≤s.2.length+1:=by
    unfold qdk
    split
    ·exact qx0 _ _ _
    ·omega
   omega
theorem qoH (op:Int) (binds:List Int) (alts:List CAlt):∀ (ks:List CTree) (k:Nat) (s:FS),(qd0 op binds alts ks k s).2.length≤s.2.length+qaF ks
 | [],k,s=>by rw[qd0];omega
 | kid :: ks,k,s => by
   rw[qd0,qaF]
   have h1:=qoH op binds alts ks (k+1) ((qbz op binds alts k).foldl (qhp (-1)) (qd9 kid ((qbz op binds alts k).foldl (qhp 1) s.1,s.2)).1,(qd9 kid ((qbz op binds alts k).foldl (qhp 1) s.1,s.2)).2)
   have h2:=qrD kid ((qbz op binds alts k).foldl (qhp 1) s.1,s.2)
   dsimp only at h1 h2
   omega
end
theorem qq8 (e:List CExpr) (hk:qdr e) (hf:∀ x∈e,NodeFit x) (hb:∀ x∈e,qwF x):∀ i,i<e.length→TFit (qaG e i):=by
 intro i
 induction i using Nat.strongRecOn with
 | ind i ih =>
   intro hi
   rw[qb0 e hk i hi]
   have hx:=hf e[i] (List.getElem_mem hi)
   refine .mk _ _ _ _ _ (hb e[i] (List.getElem_mem hi)) (by rw[List.length_map];exact hx.kids) hx.alts ?_
   intro k hkm
   obtain⟨q,hq,rfl⟩:=List.mem_map.1 hkm
   obtain⟨q0,q1⟩:=hk i hi q hq
   exact ih q.toNat (by omega) (by omega)
def qBK (flat:Bool) (op:Int):Bool:=(flat && qjZ op) || (!flat && qj0 op)
def qbL (flat:Bool) (l:Lab):Int:=if qBK flat l.op=true then 3 else qp8 l
def qkz (e:List CExpr) (ps:List Int) (flat:Bool):Int :=
 if qeU e≠0 then qeU e
 else if qb1 (e.map fun x=>qbL flat (qhb e x))≠0 then qb1 (e.map fun x=>qbL flat (qhb e x))
 else if qjm e ps=true then 7
 else if ((qda (qbD e)).any fun n => !qsR ps n)=true then 6 else 0
theorem qd6 {α:Type} (g:α→Int):∀ (l:List α),qb1 (l.map g)=0↔∀ x∈l,g x=0
 | []=>by simp[qb1]
 | x :: l => by
   rw[List.map_cons,qb1]
   by_cases h:g x=0
   ·rw[if_pos h,qd6 g l]
    simp[h]
   ·rw[if_neg h]
    simp[h]
structure CLib (L:Lib):Prop where
 plain:Plain L
 prims:CPrims L qa6
 f134:L.fns 134=some fn134
 f151:L.fns 151=some fn151
 grow:∀ (e:List CExpr) (h:Heap),e.length<2 ^ 30→(∀ x∈e,NodeFit x)→TreeL e→hgt (qbD e)≤400→pcall L 160 [.list (e.map qam) none] h=some (.val (qao (qbD e)),h)
 f165:L.fns 165=some fn165
 f167:L.fns 167=some fn167
 f181:L.fns 181=some fn181
 f190:L.fns 190=some fn190
 f191:L.fns 191=some fn191
 f192:L.fns 192=some fn192
 f193:L.fns 193=some fn193
 f194:L.fns 194=some fn194
 f195:L.fns 195=some fn195
 f196:L.fns 196=some fn196
 f232:L.fns 232=some fn232
 f234:L.fns 234=some fn234
 f235:L.fns 235=some fn235
 f236:L.fns 236=some fn236
 f258:L.fns 258=some fn258
 f259:L.fns 259=some fn259
 f264:L.fns 264=some fn264
 f265:L.fns 265=some fn265
 f266:L.fns 266=some fn266
section
variable {L:Lib} (hC:CLib L)
include hC
theorem qyV (e:List CExpr) (hl:e.length<2 ^ 30) (hf:∀ x∈e,NodeFit x) (hk:qdr e) (ps:List Int) (flat:Bool) :
  qba L.pure (call L) 1 [1,2,3,18,19,20] [1,3,6] 0 qdG ⟨kt [1,2,3,18,19,20] [.list (ps.map qav) none,.bool flat,.vptr [.list (e.map qam) none] 0,.list (e.map qam) none,.int .i64 e.length,.int .i64 ((0:Nat):Int)],[.gone]⟩ =
  some (if qb1 (e.map fun x=>qbL flat (qhb e x))=0 then (.normal,⟨kt [1,3,6] [.list (ps.map qav) none,.vptr [.list (e.map qam) none] 0,.junk],[.gone]⟩)
   else (.ret,⟨kt [1,3,6] [.list (ps.map qav) none,.vptr [.list (e.map qam) none] 0,.int .i64 (qb1 (e.map fun x=>qbL flat (qhb e x)))],[.gone]⟩)):=by
 have hL:=hC.plain
 have hp:=hL.pure
 have hdE:=qaI e
 have hround:∀ (i:Nat) (hi:i<e.length),qbc L.pure (call L) 1 [1,2,3,18,19,20] [1,3,6] qdG ⟨kt [1,2,3,18,19,20] [.list (ps.map qav) none,.bool flat,.vptr [.list (e.map qam) none] 0,.list (e.map qam) none,.int .i64 e.length,.int .i64 i],[.gone]⟩ =
   some (if qbL flat (qhb e e[i])=0 then (.normal,⟨kt [1,2,3,18,19,20] [.list (ps.map qav) none,.bool flat,.vptr [.list (e.map qam) none] 0,.list (e.map qam) none,.int .i64 e.length,.int .i64 ((i+1:Nat):Int)],[.gone]⟩)
    else (.ret,⟨kt [1,3,6] [.list (ps.map qav) none,.vptr [.list (e.map qam) none] 0,.int .i64 (qbL flat (qhb e e[i]))],[.gone]⟩)):=by
  intro i hi
  obtain⟨h1,h2,h3⟩:=qaN qam e hl i hi
  have hn:=qAJ hL hC.f265 hC.f264 hC.f266 hC.f258 hC.f259 hC.f234 hC.f235 hC.f194 hC.f193 e e[i] (hf e[i] (List.getElem_mem hi)) (fun k hkm=>by have:=hk i hi k hkm;omega)
  have c1:=qqy hL hC.f191 e[i].op
  have c2:=qqB hL hC.f192 e[i].op
  unfold qqR at hn
  unfold qbL
  have hop:(qhb e e[i]).op=e[i].op:=rfl
  rw[hop]
  generalize qhb e e[i]=lb at *
  generalize e[i]=x at *
  rw[qa5] at hn
  unfold qBK
  cases flat with
  | true =>
    cases hc:qjZ x.op with
    | true =>
      rw[hc] at c1
      unfold qdG
      simp -implicitDefEqProofs only[ev_,aOp,opd,qaa,qay,qaB,qaA,qad,qab,qaf,qag,qaT,qaS,qai,leaf,qat,gcE,qaC,ren,renC,qa9,qbq,↓reduceIte,Nat.reduceEqDiff,Nat.reduceAdd,Nat.reduceLeDiff,Int.reduceEq,qaw,qa5,qah,h1,h2,h3,c1,hdE,qal L hp,hp]
    | false =>
      rw[hc] at c1
      by_cases hz:qp8 lb=0
      ·rw[hz] at hn
       unfold qdG
       simp -implicitDefEqProofs only[ev_,aOp,opd,qaa,qay,qaB,qaA,aUn,qad,qab,qaf,qag,qaT,qaS,qai,leaf,qat,qaC,ren,renC,qa9,qbq,↓reduceIte,Nat.reduceEqDiff,Nat.reduceAdd,Nat.reduceLeDiff,qaw,qa5,qah,qap,h1,h2,h3,c1,hn,hz,hdE,qal L hp,hp,bne]
      ·have hz':(qp8 lb==0)=false:=by simpa using hz
       unfold qdG
       simp -implicitDefEqProofs only[ev_,aOp,opd,qaa,qay,qaB,qaA,aUn,qad,qab,qaf,qag,qaT,qaS,qai,leaf,qat,gcE,qaC,ren,renC,qa9,qbq,↓reduceIte,Nat.reduceEqDiff,Nat.reduceAdd,Nat.reduceLeDiff,qaw,qa5,qah,qap,h1,h2,h3,c1,hn,hz,hz',hdE,qal L hp,hp,bne]
  | false =>
    cases hc:qj0 x.op with
    | true =>
      rw[hc] at c2
      unfold qdG
      simp -implicitDefEqProofs only[ev_,aOp,opd,qaa,qay,qaB,qaA,aUn,qad,qab,qaf,qag,qaT,qaS,qai,leaf,qat,gcE,qaC,ren,renC,qa9,qbq,↓reduceIte,Nat.reduceEqDiff,Nat.reduceAdd,Nat.reduceLeDiff,Int.reduceEq,qaw,qa5,qah,h1,h2,h3,c2,hdE,qal L hp,hp]
    | false =>
      rw[hc] at c2
      by_cases hz:qp8 lb=0
      ·rw[hz] at hn
       unfold qdG
       simp -implicitDefEqProofs only[ev_,aOp,opd,qaa,qay,qaB,qaA,aUn,qad,qab,qaf,qag,qaT,qaS,qai,leaf,qat,qaC,ren,renC,qa9,qbq,↓reduceIte,Nat.reduceEqDiff,Nat.reduceAdd,Nat.reduceLeDiff,qaw,qa5,qah,qap,h1,h2,h3,c2,hn,hz,hdE,qal L hp,hp,bne]
      ·have hz':(qp8 lb==0)=false:=by simpa using hz
       unfold qdG
       simp -implicitDefEqProofs only[ev_,aOp,opd,qaa,qay,qaB,qaA,aUn,qad,qab,qaf,qag,qaT,qaS,qai,leaf,qat,gcE,qaC,ren,renC,qa9,qbq,↓reduceIte,Nat.reduceEqDiff,Nat.reduceAdd,Nat.reduceLeDiff,qaw,qa5,qah,qap,h1,h2,h3,c2,hn,hz,hz',hdE,qal L hp,hp,bne]
 refine qu9 e (fun x=>qbL flat (qhb e x)) (fun i=>⟨kt [1,2,3,18,19,20] [.list (ps.map qav) none,.bool flat,.vptr [.list (e.map qam) none] 0,.list (e.map qam) none,.int .i64 e.length,.int .i64 i],[.gone]⟩) _
  (fun r=>⟨kt [1,3,6] [.list (ps.map qav) none,.vptr [.list (e.map qam) none] 0,.int .i64 r],[.gone]⟩) ?_ ?_ ?_
 ·intro i hi hz
  rw[hround i hi,if_pos hz]
 ·intro i hi hz
  rw[hround i hi,if_neg hz]
 ·have h0:=qaQ e.length
  unfold qdG
  simp -implicitDefEqProofs only[ev_,aOp,opd,qaa,qaB,qaA,qab,gcE,qaC,ren,renC,qa9,qbq,↓reduceIte,Nat.reduceEqDiff,qah,h0,hdE]
theorem qyW (ps fs:List Int) (hps:ps.length<2 ^ 30) (hfs:fs.length<2 ^ 30) :
  qba L.pure (call L) 1 [1,51,52,53] [6] 2 qie ⟨kt [1,51,52,53] [.list (ps.map qav) none,.list (fs.map qav) none,.int .i64 fs.length,.int .i64 ((0:Nat):Int)],[.gone]⟩ =
  some (if (fs.any fun n => !qsR ps n)=true then (.ret,⟨kt [6] [.int .i64 6],[.gone]⟩) else (.normal,⟨kt [6] [.junk],[.gone]⟩)):=by
 have hL:=hC.plain
 have hp:=hL.pure
 refine qe9 fs (fun n => !qsR ps n) (fun i=>⟨kt [1,51,52,53] [.list (ps.map qav) none,.list (fs.map qav) none,.int .i64 fs.length,.int .i64 i],[.gone]⟩) _ _ ?_ ?_ ?_
 ·intro i hi hq
  obtain⟨h1,h2,h3⟩:=qaN qav fs hfs i hi
  have hc:=qkN hL hC.f181 hC.f151 ps hps fs[i]
  have hq:qsR ps fs[i]=true:=by simpa using hq
  rw[hq] at hc
  generalize fs[i]=a at *
  unfold qie
  simp -implicitDefEqProofs only[ev_,aOp,opd,qaa,qaB,qaA,aUn,qad,qab,qag,qaC,ren,renC,qa9,qbq,↓reduceIte,Nat.reduceEqDiff,qaw,qa1,qah,h1,h2,h3,hc,qal L hp,hp]
 ·intro i hi hq
  obtain⟨h1,h2,h3⟩:=qaN qav fs hfs i hi
  have hc:=qkN hL hC.f181 hC.f151 ps hps fs[i]
  have hq:qsR ps fs[i]=false:=by simpa using hq
  rw[hq] at hc
  generalize fs[i]=a at *
  unfold qie
  simp -implicitDefEqProofs only[ev_,aOp,opd,qaa,qaB,qaA,aUn,qad,qab,qag,gcE,qaC,ren,renC,qa9,qbq,↓reduceIte,Nat.reduceEqDiff,qaw,qa1,qah,h1,h2,h3,hc,qal L hp,hp]
 ·have h0:=qaQ fs.length
  unfold qie
  simp -implicitDefEqProofs only[ev_,aOp,opd,qaa,qaB,qaA,qab,gcE,qaC,ren,renC,qa9,qbq,↓reduceIte,Nat.reduceEqDiff,h0]
theorem qyX (e:List CExpr) (hl:e.length<2 ^ 30) (hf:∀ x∈e,NodeFit x) (ps:List Int) (hps:ps.length<2 ^ 30) (flat:Bool) (h:Heap) :
  pcall L 165 [.list (e.map qam) none,.list (ps.map qav) none,.bool flat] h=some (.val (.int .i64 (qkz e ps flat)),h):=by
 have hL:=hC.plain
 have hp:=hL.pure
 have hdE:=qaI e
 refine qaX hL hC.f165 rfl ?_ h
 have htree:=qA7 hL hC.f190 e hf hl
 unfold qkz
 by_cases ht:qeU e=0
 ·have htz:=(qgG e).1 ht
  obtain⟨hT,hn,hg⟩:=htz
  have hne:e≠[]:=fun h=>by have:=hT.pos;rw[h] at this;simp at this
  have hl0:=qyV hC e hl hf hT.ahead ps flat
  simp only[Int.natCast_zero] at hl0
  rw[if_neg (fun h=>h ht)]
  rw[ht] at htree
  by_cases hz:qb1 (e.map fun x=>qbL flat (qhb e x))=0
  ·rw[if_pos hz] at hl0
   rw[if_neg (fun h=>h hz)]
   have hall:=(qd6 _ e).1 hz
   have herr:∀ x∈e,qp8 (qhb e x)=0:=by
    intro x hx
    have:=hall x hx
    unfold qbL at this
    split at this
    ·cases this
    ·exact this
   have hb:∀ x∈e,qwF x:=by
    intro x hx
    have:=qrz (herr x hx) (by unfold qhb;rw[List.length_map];have:=qu0 e hT x hx;omega)
    unfold qwF
    unfold qhb at this
    dsimp only at this
    omega
   have htw:=qyl hL hC.f232 hC.f195 e hl hf hb ps hps
   cases hw:qjm e ps with
   | true =>
     rw[hw] at htw
     rw[if_pos rfl]
     unfold fn165
     simp -implicitDefEqProofs only[ev_,aOp,opd,qaa,qaB,qbd,qaA,qab,qag,leaf,qan,qac,qae,qaj,qaC,ren,renC,qa9,qbq,↓reduceIte,reduceCtorEq,Nat.reduceEqDiff,Nat.reduceLT,frz,frzC,qlY,qaw,qak,qah,htree,hl0,htw,hdE,qal L hp,hp,bne]
   | false =>
     rw[hw] at htw
     rw[if_neg (by decide)]
     have hgrow:=fun h=>hC.grow e h hl hf hT hg
     have hfit:TFit (qbD e):=qq8 e hT.ahead hf hb _ (by have:=hT.pos;omega)
     have hsz:=qhe e hT
     have hfl:=qrD (qbD e) ([],[])
     rw[List.length_nil,Nat.zero_add,hsz] at hfl
     have hfree:=quH hL hC.prims hC.f236 hC.f196 hC.f167 (qbD e) hfit (by omega) (by omega)
     have hfo:(qda (qbD e)).length<2 ^ 30:=by
      unfold qda qcu
      rw[qeO,List.length_map]
      omega
     have hl1:=qyW hC ps (qda (qbD e)) hps hfo
     simp only[Int.natCast_zero] at hl1
     generalize qda (qbD e)=fs at *
     obtain⟨tc,htc,hdt⟩:=qbC (qbD e)
     rw[htc] at hgrow hfree
     cases hx:fs.any fun n => !qsR ps n with
     | true =>
       simp only[hx,if_true] at hl1
       rw[if_pos rfl]
       unfold fn165
       simp -implicitDefEqProofs only[ev_,aOp,opd,qaa,qaB,qbd,qaA,qab,qag,leaf,qan,qac,qae,qaj,qaC,ren,renC,qa9,qbq,↓reduceIte,reduceCtorEq,Nat.reduceEqDiff,Nat.reduceLT,frz,frzC,qlY,qaw,qak,qah,htree,hl0,htw,hgrow,hfree,hl1,hdE,hdt,qcV,qal L hp,hp,bne]
     | false =>
       simp only[hx,Bool.false_eq_true,if_false] at hl1
       rw[if_neg (by decide)]
       unfold fn165
       simp -implicitDefEqProofs only[ev_,aOp,opd,qaa,qaB,qbd,qaA,qab,qag,leaf,qan,qac,qae,qaj,qaC,ren,renC,qa9,qbq,↓reduceIte,reduceCtorEq,Nat.reduceEqDiff,Nat.reduceLT,frz,frzC,qlY,qaw,qak,qah,htree,hl0,htw,hgrow,hfree,hl1,hdE,hdt,qcV,qal L hp,hp,bne]
  ·rw[if_neg hz] at hl0
   rw[if_pos hz]
   generalize qb1 (e.map fun x=>qbL flat (qhb e x))=r at *
   unfold fn165
   simp -implicitDefEqProofs only[ev_,aOp,opd,qaa,qaB,qbd,qaA,qab,qag,leaf,qan,qac,qae,qaj,qaC,ren,renC,qa9,qbq,↓reduceIte,reduceCtorEq,Nat.reduceEqDiff,Nat.reduceLT,frz,frzC,qlY,qaw,qak,qah,htree,hl0,hdE,qal L hp,hp,bne]
 ·have hz':(qeU e==0)=false:=by simpa using ht
  rw[if_pos ht]
  unfold fn165
  simp -implicitDefEqProofs only[ev_,aOp,opd,qaa,qaB,qaA,qab,qag,qan,qac,qae,qaj,↓reduceIte,Nat.reduceEqDiff,qaw,qak,htree,hz',hdE,qal L hp,hp,bne]
def qaD (e:List CExpr):Int:=qkz e [] false
theorem qcW (e:List CExpr) (hl:e.length<2 ^ 30) (hf:∀ x∈e,NodeFit x) (h:Heap):pcall L 134 [.list (e.map qam) none] h=some (.val (.int .i64 (qaD e)),h):=by
 have hL:=hC.plain
 have hp:=hL.pure
 have hdE:=qaI e
 refine qaX hL hC.f134 rfl ?_ h
 have hb:=qyX hC e hl hf [] (by simp) false
 unfold qaD fn134
 simp -implicitDefEqProofs only[ev_,aOp,opd,qan,qac,qae,qaj,↓reduceIte,reduceCtorEq,qaw,hdE,qal L hp,hp]
 simp only[List.map_nil] at hb
 simp -implicitDefEqProofs only[ev_,↓reduceIte,qak,hb]
end
theorem qiL:∀ (a b:List CTree),qaF (a++b)=qaF a+qaF b
 | [],b=>by rw[List.nil_append,qaF];omega
 | x::a,b=>by rw[List.cons_append,qaF,qaF,qiL a b];omega
theorem qlG:∀ (ks:List CTree) (b:Nat),(qbl ks b).length=ks.length
 | [],b=>rfl
 | k::ks,b=>by rw[qbl,List.length_cons,qlG ks];rfl
theorem qlS (ks:List CTree) (j:Nat):qaF (ks.take j)≤qaF ks:=by
 conv=>rhs;rw[← List.take_append_drop j ks,qiL]
 omega
section
variable {L:Lib} (hL:Plain L)
include hL
def hB (op n:Int) (binds:List Int) (outs:List CExpr) (ids:List Int) (j:Nat):Heap :=
 if j=0 then [.box [.func 187 [] [.ptr (some (0,0)),.ptr (some (1,0))]],.box [.list [] (some none)],.box [.int .i64 op,.int .i64 n,.list (binds.map qav) none,.list [] (some none),.list [] (some none)]]
 else [.box [.func 187 [] [.ptr (some (0,0)),.ptr (some (1,0))]],.box [.list (outs.map qam) (some (some 3))],.box [.int .i64 op,.int .i64 n,.list (binds.map qav) none,.list (ids.map qav) (some (some 4)),.list [] (some none)],.tail outs.length 5,.tail j 1]
end
end Go.Abs
