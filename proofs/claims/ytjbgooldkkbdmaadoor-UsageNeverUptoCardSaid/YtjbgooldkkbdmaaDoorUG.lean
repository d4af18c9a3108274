/-
  PARTS OF A PROOF, joined: an abstract machine for quiet code, its evaluation, and what the seat's functions answer on it. Conditions: none.
-/
import Derived.Test.YtjbgooldkkbdmaaDoorUA
set_option linter.unusedVariables false
set_option linter.unusedSimpArgs false
set_option maxRecDepth 100000
set_option maxHeartbeats 4000000
namespace Go.Abs
section
variable {L:Lib} (hL:Plain L)
include hL
theorem qvm (h295:L.fns 295=some fn295) (h236:L.fns 236=some fn236) (op n:Int) (binds:List Int) (kids:List CTree) (alts:List CAlt) (hb:(binds++alts.flatMap (·.binds)).length<2 ^ 30) (hk:kids.length<2 ^ 30) (ha:alts.length<2 ^ 30)
  (ih:∀ k∈kids,quJ L k) (d:Int) (hd0:0≤d) (hd:d+(qsR kids+1:Nat)<2 ^ 40) (s0:US) (N:Nat) (hs:UB s0 N) (hN:N+qbl kids<2 ^ 40) :
  qbd L.pure (call L) 4 [0,1,2,50,51,52] [] 0 qfi
   ⟨kt [0,1,2,50,51,52] [.ptr (some (0,0)),qay (.mk op n binds kids alts),.int .i64 d,.list (kids.map qay) none,.int .i64 kids.length,.int .i64 ((0:Nat):Int)],uh s0⟩ =
   some (.normal,⟨kt [] [],uh (qhv op binds alts kids 0 d s0)⟩):=by
 have hp:=hL.pure
 have hT:=qdd (.mk op n binds kids alts)
 have hKs:=qc6 kids
 have key:=qb2 (pure:=L.pure) (call:=call L) (b:=4) (keep:=[0,1,2,50,51,52]) (fk:=[]) (id:=0) (body:=qfi) (ε:=Unit) kids (fun i s k=>.ok (qk5 k (qcq op i d) (setD (qbo op binds alts i) (qcq op i d) s)))
  (fun s j=>⟨kt [0,1,2,50,51,52] [.ptr (some (0,0)),qay (.mk op n binds kids alts),.int .i64 d,.list (kids.map qay) none,.int .i64 kids.length,.int .i64 j],uh s⟩)
  (fun s=>⟨kt [] [],uh s⟩) (fun _ _=>False) (fun s i=>UB s (N+qbl (kids.take i))) s0 (by rw[List.take_zero,qbl];exact hs) ?_ ?_ ?_
 ·exact (key.1 _ (qkg op binds alts d kids 0 s0)).2
 ·intro i hi s s' hs hq
  injection hq with hq
  obtain⟨h1,h2,h3⟩:=qaV qay kids hk i hi
  have hih:=ih kids[i] (List.getElem_mem hi)
  have hh:=qgm (List.getElem_mem hi)
  have hts:qbl (kids.take (i+1))=qbl (kids.take i)+qez kids[i]:=by
   rw[List.take_succ_eq_append_getElem hi]
   generalize kids.take i=pre
   induction pre with
   | nil=>rw[List.nil_append,qbl,qbl,qbl];omega
   | cons a pre ih3=>rw[List.cons_append,qbl,qbl,ih3];omega
  have hle:qbl (kids.take (i+1))≤qbl kids:=by
   conv=>rhs;rw[← List.take_append_drop (i+1) kids]
   generalize kids.take (i+1)=pre
   induction pre with
   | nil=>rw[qbl];omega
   | cons a pre ih3=>rw[List.cons_append,qbl,qbl];omega
  have hUB:UB (setD (qbo op binds alts i) (qcq op i d) s) (N+qbl (kids.take i)):=hs
  have hdd:qcq op i d=d∨qcq op i d=d+1:=by unfold qcq;split<;>simp
  have hcall:=hih (qcq op i d) (setD (qbo op binds alts i) (qcq op i d) s) (N+qbl (kids.take i)) (by omega) (by omega) hUB (by omega)
  refine⟨?_,by rw[← hq,hts,← Nat.add_assoc];exact UB.walk kids[i] _ _ _ hUB⟩
  have hrep:=qpg hL h295 op [.int .i64 n,.list (binds.map qat) none,.list (kids.map qay) none,.list (alts.map qao) none] i
  have hbd:=qnJ hL h236 op n binds (.list (kids.map qay) none) alts ha i (by omega)
  have hbl:=qll op binds alts i
  have hl0:=qvl (L:=L) (qay (.mk op n binds kids alts)) (.list (kids.map qay) none) hT (by rw[qa8];exact hKs) kids[i] (qbo op binds alts i) (by omega) d (qcq op i d) kids.length i s
  rw[← hq]
  rw[qba] at hl0 hT
  rw[qba]
  simp only[Int.natCast_zero] at hl0
  have hdI:=qac (qbo op binds alts i)
  obtain⟨tc,htc,hdt⟩:=qds kids[i]
  rw[htc] at h3 hcall hl0
  have hw:IntKind.i64.wrap (d+1)=d+1:=qcz (by omega) (by omega)
  by_cases hr:op=2∨(op=13∧0<i)
  ·have hdeep:qcq op i d=d+1:=by unfold qcq;rw[if_pos hr]
   have hdec:decide (op=2∨(op=13∧0<i))=true:=by simpa using hr
   rw[hdec] at hrep
   rw[hdeep] at hl0 hcall ⊢
   unfold uh at hl0 hcall ⊢
   unfold qfi
   simp -implicitDefEqProofs only[ev_,aOp,opd,qaa,qaC,qbu,qaB,qae,qab,qah,qan,ren,renC,qaN,qa3,↓reduceIte,reduceCtorEq,Nat.reduceEqDiff,Nat.reduceAdd,Nat.reduceLT,Nat.reduceLeDiff,qaA,qac,qaf,h1,h2,h3,hrep,hbd,hl0,hcall,hw,hKs,hdI,hdt,qcW,qcX,qar L hp,hp]
  ·have hdeep:qcq op i d=d:=by unfold qcq;rw[if_neg hr]
   have hdec:decide (op=2∨(op=13∧0<i))=false:=by simpa using hr
   rw[hdec] at hrep
   rw[hdeep] at hl0 hcall ⊢
   unfold uh at hl0 hcall ⊢
   unfold qfi
   simp -implicitDefEqProofs only[ev_,aOp,opd,qaa,qaC,qbu,qaB,qae,qab,qah,qan,ren,renC,qaN,qa3,↓reduceIte,reduceCtorEq,Nat.reduceEqDiff,Nat.reduceAdd,Nat.reduceLT,Nat.reduceLeDiff,qaA,qac,qaf,h1,h2,h3,hrep,hbd,hl0,hcall,hw,hKs,hdI,hdt,qcW,qcX,qar L hp,hp]
 ·intro i hi s e _ hq
  cases hq
 ·intro s hs
  have h0:=qa0 kids.length
  rw[qba]
  unfold uh
  unfold qfi
  simp -implicitDefEqProofs only[ev_,aOp,opd,qaa,qaC,qaB,qab,gcE,qan,ren,renC,qaN,qa3,↓reduceIte,reduceCtorEq,Nat.reduceEqDiff,Nat.reduceAdd,Nat.reduceLT,Nat.reduceLeDiff,h0,hKs,qcW,qcX]
theorem qvn (h285:L.fns 285=some fn285) (h295:L.fns 295=some fn295) (h236:L.fns 236=some fn236) (t:CTree) (hf:TFit t):quJ L t:=by
 have hs:=hL.summ 285 (by rw[h285];simp)
 induction t using CTree.ind with
 | h op n binds kids alts ih =>
   intro d s N hd0 hd hU hN
   cases hf with
   | mk _ _ _ _ _ hb hk ha hfk =>
   rw[qez] at hN
   rw[hgt] at hd
   rw[qk5]
   have hU1:UB (if op=0 then qqf n d s else s) (N+1):=by
    split
    ·exact hU.hit n d
    ·intro v;have:=hU v;omega
   have hl1:=qvm hL h295 h236 op n binds kids alts hb hk ha (fun k hkm=>ih k hkm (hfk k hkm)) d hd0 hd (if op=0 then qqf n d s else s) (N+1) hU1 (by omega)
   have hKs:=qc6 kids
   have hAs:=qaf alts
   refine qfL hs h285 ?_
   rw[qba] at hl1 ⊢
   simp only[Int.natCast_zero] at hl1
   have q1:=hU n
   have w1:IntKind.i64.wrap (qbH n s.uses+1)=qbH n s.uses+1:=qcz (by omega) (by omega)
   have w2:IntKind.i64.wrap (qbH n s.many+1)=qbH n s.many+1:=qcz (by omega) (by omega)
   have a1:=fun (h:Heap) (hr:h[1]? = some (.map (encB s.uses)))=>ql1 h 1 n s.uses hr
   have a2:=fun (h:Heap) (hr:h[2]? = some (.map (encB s.depth)))=>ql1 h 2 n s.depth hr
   have a3:=fun (h:Heap) (hr:h[3]? = some (.map (encB s.many)))=>ql1 h 3 n s.many hr
   have b1:=fun (h:Heap) (hr:h[1]? = some (.map (encB s.uses)))=>qvk h 1 n (qbH n s.uses+1) s.uses hr
   have b3:=fun (h:Heap) (hr:h[3]? = some (.map (encB s.many)))=>qvk h 3 n (qbH n s.many+1) s.many hr
   by_cases h0:op=0
   ·have h0':(op==0)=true:=by simpa using h0
    rw[if_pos h0] at hl1 ⊢
    unfold qqf at hl1 ⊢
    by_cases hlt':qbH n s.depth<d
    ·simp only[hlt',if_true] at hl1 ⊢
     unfold uh at hl1 ⊢
     unfold fn285
     simp -implicitDefEqProofs only[ev_,aOp,opd,qaa,qau,qaC,qbu,qaB,qab,qag,qah,qak,qaw,qad,qam,qan,ren,renC,qaN,qa3,qbc,↓reduceIte,reduceCtorEq,Nat.reduceEqDiff,Nat.reduceAdd,Nat.reduceLT,Nat.reduceLeDiff,qac,h0',w1,w2,a1,a2,a3,b1,b3,hl1,hlt',hKs,hAs,qcW,qcX]
    ·simp only[hlt',if_false] at hl1 ⊢
     unfold uh at hl1 ⊢
     unfold fn285
     simp -implicitDefEqProofs only[ev_,aOp,opd,qaa,qau,qaC,qbu,qaB,qab,qag,qah,qak,qaw,qad,qam,qan,ren,renC,qaN,qa3,qbc,↓reduceIte,reduceCtorEq,Nat.reduceEqDiff,Nat.reduceAdd,Nat.reduceLT,Nat.reduceLeDiff,qac,h0',w1,w2,a1,a2,a3,b1,b3,hl1,hlt',hKs,hAs,qcW,qcX]
   ·have h0':(op==0)=false:=by simpa using h0
    rw[if_neg h0] at hl1 ⊢
    unfold uh at hl1 ⊢
    unfold fn285
    simp -implicitDefEqProofs only[ev_,aOp,opd,qaa,qaC,qbu,qaB,qab,qah,qak,qaw,qad,qam,qan,ren,renC,qaN,qa3,↓reduceIte,reduceCtorEq,Nat.reduceEqDiff,Nat.reduceAdd,Nat.reduceLT,Nat.reduceLeDiff,qac,h0',hl1,hKs,hAs,qcW,qcX]
end
section
variable {L:Lib}
def qu9 (op n:Int) (binds:List Int) (kv:AVal) (as:List CAlt) (s:List Int) (i:Nat):St:=⟨kt [3,34,35,36] [.list (s.map qat) (qcG 1 s.length),.list (as.map qao) none,.int .i64 as.length,.int .i64 i],.box [.int .i64 op,.int .i64 n,.list (binds.map qat) none,kv,.list (as.map qao) none]::qbk 1 s.length⟩
def qvu (op n:Int) (binds:List Int) (kv:AVal) (as:List CAlt) (s:List Int):St:=⟨kt [3] [.list (s.map qat) (qcG 1 s.length)],.box [.int .i64 op,.int .i64 n,.list (binds.map qat) none,kv,.list (as.map qao) none]::qbk 1 s.length⟩
theorem qoK (op n:Int) (binds:List Int) (kv:AVal) (hkv:qap kv=true) (as:List CAlt) (hl:as.length<2 ^ 30) (s0:List Int) (ht:(s0++as.flatMap (·.binds)).length≤2 ^ 30) :
  qbd L.pure (call L) ((qbk 1 s0.length).length+1) [3,34,35,36] [3] 0 qby (qu9 op n binds kv as s0 0)=some (.normal,qvu op n binds kv as (s0++as.flatMap (·.binds))):=by
 have hb:(qbk 1 s0.length).length=0∨((qbk 1 s0.length).length=1∧s0≠[]):=by
  cases s0 with
  | nil=>exact .inl rfl
  | cons a l=>exact .inr ⟨rfl,by simp⟩
 generalize (qbk 1 s0.length).length=b at hb
 have key:=qdQ (pure:=L.pure) (call:=call L) (b:=b+1) (keep:=[3,34,35,36]) (fk:=[3]) (id:=0) (body:=qby) as (fun s a=>s++a.binds) (qu9 op n binds kv as) (qvu op n binds kv as)
  (fun s i=>s++(as.drop i).flatMap (·.binds)=s0++as.flatMap (·.binds)∧(b=0∨(b=1∧s≠[]))) s0 ⟨rfl,hb⟩ ?_ ?_
 ·obtain⟨⟨h1,_⟩,h2⟩:=key
  rw[List.drop_length,List.flatMap_nil,List.append_nil] at h1
  rw[h2,h1]
 ·intro i hi s hs
  obtain⟨h1,h2,h3⟩:=qaV qao as hl i hi
  obtain⟨hs1,hs2⟩:=hs
  have hd:as.drop i=as[i]::as.drop (i+1):=List.drop_eq_getElem_cons hi
  rw[hd,List.flatMap_cons] at hs1
  have hlen:s.length+as[i].binds.length≤1073741824:=by
   have:=congrArg List.length hs1
   simp only[List.length_append] at this ht
   omega
  refine⟨?_,by rw[List.append_assoc];exact hs1,by rcases hs2 with h | ⟨h,h'⟩;exact .inl h;exact .inr ⟨h,by simp[h']⟩⟩
  clear hs1 hd ht
  generalize as[i]=a at *
  have hs1:=qdq s
  have hs3:=qdq a.binds
  unfold qu9
  by_cases hab:a.binds=[]
  ·rw[hab,List.append_nil]
   by_cases hz:s=[]
   ·subst hz
    rcases hs2 with rfl | ⟨rfl,h⟩
    ·unfold qby
     simp -implicitDefEqProofs only[ev_,aOp,opd,qaa,qau,qaC,qaB,qae,qab,qah,qaQ,qaH,qak,leaf,qas,qan,ren,renC,qaN,qa3,qaZ,↓reduceIte,Nat.reduceEqDiff,Nat.reduceAdd,Nat.reduceLeDiff,qbv,qbp,qaE,qac,qaf,hkv,qaf,qac,h1,h2,h3,hab]
    ·exact absurd rfl h
   ·have o1:=qb3 (b:=1) (List.length_pos_iff.2 hz)
    have o2:=qbG (sz:=1) (List.length_pos_iff.2 hz)
    rcases hs2 with rfl | ⟨rfl,h⟩<;>unfold qby<;>simp -implicitDefEqProofs only[ev_,aOp,opd,qaa,qau,qaC,qaB,qae,qab,qah,qaQ,qaH,qak,leaf,qas,qan,ren,renC,qaN,qa3,qaZ,↓reduceIte,Nat.reduceEqDiff,Nat.reduceAdd,Nat.reduceLT,Nat.reduceLeDiff,qaE,qac,qaf,hkv,qaf,qac,h1,h2,h3,hab,o1,o2]
  ·have hab':((a.binds.map qat)=[])=False:=by simpa using hab
   by_cases hz:s=[]
   ·subst hz
    have o3:=qb3 (b:=1) (List.length_pos_iff.2 hab)
    have o4:=qbG (sz:=1) (List.length_pos_iff.2 hab)
    have hlen:a.binds.length≤1073741824:=by simpa using hlen
    rcases hs2 with rfl | ⟨rfl,h⟩
    ·unfold qby
     simp -implicitDefEqProofs only[ev_,aOp,opd,qaa,qau,qaC,qaB,qae,qab,qah,qaQ,qaH,qak,leaf,qas,qan,ren,renC,qaN,qa3,qaZ,↓reduceIte,Nat.reduceEqDiff,Nat.reduceAdd,Nat.reduceLT,Nat.reduceLeDiff,qbv,qbp,qaE,qac,qaf,hkv,qaf,qac,h1,h2,h3,hab',hlen,hs3,o3,o4]
    ·exact absurd rfl h
   ·have o1:=qb3 (b:=1) (List.length_pos_iff.2 hz)
    have o2:=qbG (sz:=1) (List.length_pos_iff.2 hz)
    have hpos:=List.length_pos_iff.2 hz
    have o3:qcG 1 (s.length+a.binds.length)=some (some 1):=qb3 (by omega)
    have o4:qbk 1 (s.length+a.binds.length)=[.tail (s.length+a.binds.length) 1]:=qbG (by omega)
    rcases hs2 with rfl | ⟨rfl,h⟩<;>unfold qby<;>simp -implicitDefEqProofs only[ev_,aOp,opd,qaa,qau,qaC,qaB,qae,qab,qah,qaQ,qaH,qak,leaf,qas,qan,ren,renC,qaN,qa3,qaZ,↓reduceIte,Nat.reduceEqDiff,Nat.reduceAdd,Nat.reduceLT,Nat.reduceLeDiff,qaE,qac,qaf,hkv,qaf,qac,h1,h2,h3,hab',hlen,hs1,hs3,o1,o2,o3,o4]
 ·intro s hs
  have h0:=qa0 as.length
  unfold qu9 qvu
  cases s with
  | nil => 
    rcases hs.2 with rfl | ⟨rfl,h⟩
    ·unfold qby
     simp -implicitDefEqProofs only[ev_,aOp,opd,qaa,qaC,qaB,qab,gcE,qan,ren,renC,qaN,qa3,↓reduceIte,Nat.reduceEqDiff,qbv,qbp,qac,qaf,hkv,qaf,qac,h0]
    ·exact absurd rfl h
  | cons x s =>
    rcases hs.2 with rfl | ⟨rfl,h⟩<;>unfold qby<;>simp -implicitDefEqProofs only[ev_,aOp,opd,qaa,qaC,qaB,qab,gcE,qan,ren,renC,qaN,qa3,↓reduceIte,Nat.reduceEqDiff,Nat.reduceAdd,Nat.reduceLT,Nat.reduceLeDiff,qdV,qdm,qa7,qac,qaf,hkv,qaf,qac,h0]
theorem qm1 (hL:Plain L) (h232:L.fns 232=some fn232) (op n:Int) (binds:List Int) (kv:AVal) (hkv:qap kv=true) (as:List CAlt) (hl:as.length<2 ^ 30) (ht:(binds++as.flatMap (·.binds)).length≤2 ^ 30) :
  call L 232 [.ptr (some (0,0))] [.box [.int .i64 op,.int .i64 n,.list (binds.map qat) none,kv,.list (as.map qao) none]]=some (.val (.list ((qbY op binds as).map qat) (qcG 1 (qbY op binds as).length)),.box [.int .i64 op,.int .i64 n,.list (binds.map qat) none,kv,.list (as.map qao) none]::qbk 1 (qbY op binds as).length):=by
 refine qfL (hL.summ 232 (by rw[h232];simp)) h232 ?_
 have tail:∀ (s0:List Int) (tm:Tmps),(s0++as.flatMap (·.binds)).length≤2 ^ 30→tm 0=.ptr (some (0,0))→tm 3=.list (s0.map qat) (qcG 1 s0.length) →
   qaw [.tmp 2] (qaG L.pure (call L) qdf ⟨tm,.box [.int .i64 op,.int .i64 n,.list (binds.map qat) none,kv,.list (as.map qao) none]::qbk 1 s0.length⟩)=some (.val (.list ((s0++as.flatMap (·.binds)).map qat) (qcG 1 (s0++as.flatMap (·.binds)).length)),.box [.int .i64 op,.int .i64 n,.list (binds.map qat) none,kv,.list (as.map qao) none]::qbk 1 (s0++as.flatMap (·.binds)).length):=by
  intro s0 tm hlen h0 h3
  have hloop:=qoK (L:=L) op n binds kv hkv as hl s0 hlen
  unfold qu9 qvu at hloop
  simp only[Int.natCast_zero] at hloop
  generalize s0++as.flatMap (·.binds)=r at *
  rcases qdW 1 1 s0.length with ⟨o1,o2⟩ | ⟨o1,o2⟩<;>rw[o1,o2] at hloop<;>rw[o1] at h3<;>rw[o2] <;>
   rcases qdW 1 1 r.length with ⟨o3,o4⟩ | ⟨o3,o4⟩<;>rw[o3,o4] at hloop<;>rw[o3,o4]<;>simp only[List.length_nil,List.length_cons,Nat.zero_add,Nat.reduceAdd] at hloop <;>
   unfold qdf<;>simp -implicitDefEqProofs only[ev_,aOp,opd,qaa,qbu,qah,qak,qaw,qad,qai,qam,qan,ren,renC,qaN,qa3,↓reduceIte,Nat.reduceEqDiff,Nat.reduceAdd,Nat.reduceLT,Nat.reduceLeDiff,qac,qaf,hkv,h0,h3,hloop]
 have hlB:(as.flatMap (·.binds)).length≤2 ^ 30:=by rw[List.length_append] at ht;omega
 have hall:=qdq binds
 have hbl:binds.length≤1073741824:=by rw[List.length_append] at ht;omega
 unfold qbY
 have T:=tail
 cases ho:qfV op with
 | true =>
   have e:(op==2)=true∨((op==2)=false∧(op==4)=true)∨((op==2)=false∧(op==4)=false∧(op==5)=true):=by
    unfold qfV at ho
    revert ho
    cases (op==2)<;>cases (op==4)<;>cases (op==5)<;>simp
   rw[if_pos rfl]
   unfold fn232 qnc
   by_cases hb:binds=[]
   ·subst hb
    have T0:=T []
    simp only[List.map_nil,List.length_nil,qbv,qbp,List.nil_append] at T0 ⊢
    generalize qdf=t at *
    rcases e with e1 | ⟨e1,e2⟩ | ⟨e1,e2,e3⟩
    ·simp -implicitDefEqProofs only[ev_,aOp,opd,qaa,qaC,qaB,qab,qag,qah,qak,qaw,qad,qai,qam,qaZ,↓reduceIte,reduceCtorEq,Nat.reduceEqDiff,hkv,e1]
     refine T0 _ hlB ?_ ?_<;>simp -implicitDefEqProofs only[ev_,↓reduceIte,reduceCtorEq,hkv]
    ·simp -implicitDefEqProofs only[ev_,aOp,opd,qaa,qaC,qaB,qab,qag,qah,qak,qaw,qad,qai,qam,qaZ,↓reduceIte,reduceCtorEq,Nat.reduceEqDiff,hkv,e1,e2]
     refine T0 _ hlB ?_ ?_<;>simp -implicitDefEqProofs only[ev_,↓reduceIte,reduceCtorEq,hkv]
    ·simp -implicitDefEqProofs only[ev_,aOp,opd,qaa,qaC,qaB,qab,qag,qah,qak,qaw,qad,qai,qam,qaZ,↓reduceIte,reduceCtorEq,Nat.reduceEqDiff,hkv,e1,e2,e3]
     refine T0 _ hlB ?_ ?_<;>simp -implicitDefEqProofs only[ev_,↓reduceIte,reduceCtorEq,hkv]
   ·have hb':((binds.map qat)=[])=False:=by simpa using hb
    have o1:=qb3 (b:=1) (List.length_pos_iff.2 hb)
    have o2:=qbG (sz:=1) (List.length_pos_iff.2 hb)
    have T1:=T binds
    rw[o1,o2] at T1
    generalize hres:(some (ARes.val (AVal.list ((binds++as.flatMap (·.binds)).map qat) (qcG 1 (binds++as.flatMap (·.binds)).length)),(.box [.int .i64 op,.int .i64 n,.list (binds.map qat) none,kv,.list (as.map qao) none]::qbk 1 (binds++as.flatMap (·.binds)).length:Heap)):Option (ARes × Heap))=res at *
    generalize qdf=t at *
    rcases e with e1 | ⟨e1,e2⟩ | ⟨e1,e2,e3⟩
    ·simp -implicitDefEqProofs only[ev_,aOp,opd,qaa,qaC,qaB,qab,qag,qah,qak,qaw,qad,qai,qam,qaZ,↓reduceIte,reduceCtorEq,Nat.reduceEqDiff,hkv,e1,hb',hall,hbl]
     refine T1 _ ht ?_ ?_<;>simp -implicitDefEqProofs only[ev_,↓reduceIte,reduceCtorEq,hkv]
    ·simp -implicitDefEqProofs only[ev_,aOp,opd,qaa,qaC,qaB,qab,qag,qah,qak,qaw,qad,qai,qam,qaZ,↓reduceIte,reduceCtorEq,Nat.reduceEqDiff,hkv,e1,e2,hb',hall,hbl]
     refine T1 _ ht ?_ ?_<;>simp -implicitDefEqProofs only[ev_,↓reduceIte,reduceCtorEq,hkv]
    ·simp -implicitDefEqProofs only[ev_,aOp,opd,qaa,qaC,qaB,qab,qag,qah,qak,qaw,qad,qai,qam,qaZ,↓reduceIte,reduceCtorEq,Nat.reduceEqDiff,hkv,e1,e2,e3,hb',hall,hbl]
     refine T1 _ ht ?_ ?_<;>simp -implicitDefEqProofs only[ev_,↓reduceIte,reduceCtorEq,hkv]
 | false =>
   have e:(op==2)=false∧(op==4)=false∧(op==5)=false:=by
    unfold qfV at ho
    revert ho
    cases (op==2)<;>cases (op==4)<;>cases (op==5)<;>simp
   obtain⟨e1,e2,e3⟩:=e
   rw[if_neg (by decide)]
   have T0:=T []
   simp only[List.map_nil,List.length_nil,qbv,qbp,List.nil_append] at T0 ⊢
   generalize hres:(some (ARes.val (AVal.list ((as.flatMap (·.binds)).map qat) (qcG 1 (as.flatMap (·.binds)).length)),(.box [.int .i64 op,.int .i64 n,.list (binds.map qat) none,kv,.list (as.map qao) none]::qbk 1 (as.flatMap (·.binds)).length:Heap)):Option (ARes × Heap))=res at *
   unfold fn232
   generalize qdf=t at *
   simp -implicitDefEqProofs only[ev_,aOp,opd,qaa,qaC,qaB,qab,qag,qah,qak,qaw,qad,qai,qam,↓reduceIte,reduceCtorEq,Nat.reduceEqDiff,hkv,e1,e2,e3]
   exact T0 _ hlB (by simp -implicitDefEqProofs only[ev_,↓reduceIte,reduceCtorEq]) (by simp -implicitDefEqProofs only[ev_,↓reduceIte,Nat.reduceEqDiff])
end
theorem qu1 {L:Lib} (hL:Plain L) (hf:L.fns 290=some fn290) (f:AVal) (hd:qap f=true) (hk:∃ g a c,f=.func g a c) (p:CExpr→Bool) (xs:List CExpr) (hl:xs.length<2 ^ 30)
  (hg:∀ a∈xs,∀ h:Heap,(match f with | .func g u c=>qbI L.pure (call L) g (u++.agg [.int .i64 a.op,.int .i64 a.n,.list (a.binds.map qat) none,.list (a.kids.map qat) none,.list (a.alts.map qao) none]::c) h | _=>none)=some (.val (.bool (p a)),h)) (h:Heap) :
  pcall L 290 [.list (xs.map qal) none,f] h=some (.val (.int .i64 (quC p xs)),h):=by
 have hp:=hL.pure
 obtain⟨g,u,c,rfl⟩:=hk
 dsimp only at hg
 refine qa5 hL hf rfl ?_ h
 have hloop:=qcF (pure:=L.pure) (call:=call L) (b:=0) (keep:=[0,1,7,8]) (fk:=[4]) (id:=0) (body:=qgi) xs (fun i a=>if p a=true then some i else none)
  (fun i=>⟨kt [0,1,7,8] [.list (xs.map qal) none,.func g u c,.int .i64 xs.length,.int .i64 i],[]⟩) ⟨kt [4] [.junk],[]⟩ (fun i=>⟨kt [4] [.int .i64 i],[]⟩)
  (by
   intro i hi hq
   have h1:((i:Int)<xs.length):=by omega
   have h2:IntKind.i64.wrap ((i:Int)+1)=((i+1:Nat):Int):=by rw[qcz (by omega) (by omega)];rfl
   have h3:(xs.map qal)[i]? = some (qal xs[i]):=by simp[hi]
   have h5:=hg xs[i] (List.getElem_mem hi)
   have h6:p xs[i]=false:=by cases hx:p xs[i]<;>simp[hx] at hq ⊢
   generalize xs[i]=a at *
   unfold qgi
   simp -implicitDefEqProofs only[ev_,aOp,opd,qaa,qaC,qaB,qae,qab,qaH,qan,ren,renC,qaN,qa3,↓reduceIte,reduceCtorEq,Nat.reduceEqDiff,Nat.reduceAdd,qaL,qaW,hd,h1,h2,h3,h5,h6,reduceCtorEq])
  (by
   intro i hi r hq
   have h1:((i:Int)<xs.length):=by omega
   have h3:(xs.map qal)[i]? = some (qal xs[i]):=by simp[hi]
   have h5:=hg xs[i] (List.getElem_mem hi)
   have h6:p xs[i]=true:=by cases hx:p xs[i]<;>simp[hx] at hq ⊢
   have h7:i=r:=by simpa[h6] using hq
   subst h7
   generalize xs[i]=a at *
   unfold qgi
   simp -implicitDefEqProofs only[ev_,aOp,opd,qaa,qaC,qaB,qae,qab,qaH,gcE,qan,ren,renC,qaN,qa3,↓reduceIte,reduceCtorEq,Nat.reduceEqDiff,Nat.reduceAdd,qaL,hd,h1,h3,h5,h6,reduceCtorEq])
  (by
   have h0:¬ ((xs.length:Int)<xs.length):=by omega
   unfold qgi
   simp -implicitDefEqProofs only[ev_,aOp,opd,qaa,qaC,qaB,qab,gcE,qan,ren,renC,qaN,qa3,↓reduceIte,reduceCtorEq,Nat.reduceEqDiff,hd,h0,reduceCtorEq])
 simp only[Int.natCast_zero] at hloop
 unfold fn290 quC
 cases hq:qaF (fun i a=>if p a=true then some i else none) xs 0<;>simp only[hq,qbr] at hloop<;>simp -implicitDefEqProofs only[ev_,aOp,opd,qaa,qbu,qaw,qad,qai,qam,qan,ren,renC,qaN,qa3,↓reduceIte,reduceCtorEq,Nat.reduceEqDiff,Int.reduceNeg,qaj,qaW,hd,hloop,hq]
theorem quO {L:Lib} (hL:Plain L) (hf:L.fns 276=some fn276) (hfi:L.fns 290=some fn290) (f:AVal) (hd:qap f=true) (hk:∃ g a c,f=.func g a c) (p:CExpr→Bool) (xs:List CExpr) (hl:xs.length<2 ^ 30)
  (hg:∀ a∈xs,∀ h:Heap,(match f with | .func g u c=>qbI L.pure (call L) g (u++.agg [.int .i64 a.op,.int .i64 a.n,.list (a.binds.map qat) none,.list (a.kids.map qat) none,.list (a.alts.map qao) none]::c) h | _=>none)=some (.val (.bool (p a)),h)) (h:Heap) :
  pcall L 276 [.list (xs.map qal) none,f] h=some (.val (.bool (xs.any p)),h):=by
 have hp:=hL.pure
 have hi:=qu1 hL hfi f hd hk p xs hl hg
 obtain⟨g,u,c,rfl⟩:=hk
 refine qa5 hL hf rfl ?_ h
 have ha:=qn8 p xs
 unfold fn276
 cases hq:xs.any p<;>rw[hq] at ha<;>simp -implicitDefEqProofs only[ev_,aOp,opd,qaa,qaC,qaB,qab,qaw,qad,qai,qam,↓reduceIte,reduceCtorEq,Nat.reduceEqDiff,ge_iff_le,qaj,qaW,hd,hi,qar L hp,hp,ha]
theorem qsq {L:Lib} (hL:Plain L) (h277:L.fns 277=some fn277) (x:CExpr) (id how:Int) (h:Heap) :
  qbI L.pure (call L) 277 [.agg [.int .i64 x.op,.int .i64 x.n,.list (x.binds.map qat) none,.list (x.kids.map qat) none,.list (x.alts.map qao) none],.vptr [.int .i64 id,.int .i64 how] 0] h=some (.val (.bool (x.op==0 && x.n==id)),h):=by
 have hp:=hL.pure
 have key:∀ h:Heap,pcall L 277 [.agg [.int .i64 x.op,.int .i64 x.n,.list (x.binds.map qat) none,.list (x.kids.map qat) none,.list (x.alts.map qao) none],.vptr [.int .i64 id,.int .i64 how] 0] h=some (.val (.bool (x.op==0 && x.n==id)),h):=by
  intro h
  refine qa5 hL h277 rfl ?_ h
  cases h0:(x.op==0)<;>cases h1:(x.n==id)<;>unfold fn277<;>simp -implicitDefEqProofs only[ev_,aOp,opd,qaa,qaC,qaB,qab,qag,qah,qak,qaw,qad,qai,qam,↓reduceIte,Nat.reduceEqDiff,qaj,h0,h1]
 have hI:=qac
 have hA:=qaf
 simp only[qar L hp,hp,qlw,qnT,qlv,qoo,qmb,qqD,qom,qqC,ql9,qnn,qlt,qnV,qls,qjF,qlu,qnU,qop,qj5,qqH,aOp,opd,qs3,qoy,qlP,qng,qaa,qau,qaC,qvq,qbu,qaB,aUn,aEq,qfZ,qfY,qcs,qae,qab,qag,qah,qaQ,qaH,qak,qlc,qnE,qcD,qcU,leaf,qjr,qmU,qjs,qoF,qhV,qju,qhX,qjt,qhU,qoE,qle,qas,qaw,qad,qai,qam,qjG,gcE,quV,qjV,qiA,qn5,qj2,qiI,qn6,qan,ren,renC,qmo,qou,qmq,qmp,qaN,qa3,qlI,qn7,qlK,qlJ,qpZ,qon,qma,qbc,qaZ,qoz,qmR,qmP,qoA,qsK,qi7,qmN,qkl,qkk,qmO,qrp,qoC,qgy,qoB,qmQ,qsJ,qkj,qpt,qmM,qro,qa8,qeu,qev,qiv,qgM,qo0,qjR,qeP,qiw,qiy,qjT,qjS,qix,qfS,qeO,qfA,qvz,quM,quL,qvy,beq_self_eq_true,Option.map_some,Option.map_none,Option.getD_some,Option.getD_none,List.map_cons,List.map_nil,List.flatMap_cons,List.flatMap_nil,List.length_cons,List.length_nil,List.length_append,List.length_map,List.cons_append,List.nil_append,List.append_nil,List.append_assoc,List.getElem?_nil,List.getElem?_cons_zero,List.getElem?_cons_succ,List.set_cons_zero,List.set_cons_succ,List.take_succ_cons,List.take_zero,List.drop_succ_cons,List.drop_zero,List.take_nil,List.drop_nil,List.all_cons,List.all_nil,List.mem_cons,List.not_mem_nil,if_true,if_false,↓reduceIte,ite_true,ite_false,Bool.and_true,Bool.true_and,Bool.and_false,Bool.false_and,Bool.or_true,Bool.true_or,Bool.or_false,Bool.false_or,Bool.not_true,Bool.not_false,Bool.false_eq_true,Bool.true_eq_false,and_true,true_and,and_false,false_and,or_true,true_or,or_false,false_or,not_true_eq_false,not_false_eq_true,decide_true,decide_false,and_self,Nat.le_refl,Nat.zero_le,reduceCtorEq,Nat.add_zero,Nat.zero_add,Nat.reduceEqDiff,Nat.reduceAdd,Nat.reduceSub,Nat.reduceMul,Nat.reduceLT,Nat.reduceLeDiff,Int.reduceToNat,Int.reduceLE,Int.reduceLT,Int.reduceEq,Int.toNat_natCast,Int.natCast_nonneg,ne_eq,List.cons_ne_nil,qmr,ql5,qg5,qh9,qlr,qlj,qmW,qlA,forall_const,implies_true,forall_eq_or_imp,forall_eq,List.map_append,qeA,Int.reduceBEq,Int.reduceBNe,Int.reduceGT,Int.reduceGE,Int.reduceNeg,Int.reduceAdd,Int.reduceNe,qsU,Int.cast_ofNat_Int,ge_iff_le,gt_iff_lt,qie,qlx,qjN,qn4,qqc,frz,frzC,qhH,qc9,qdh,Option.isSome_some,Option.isSome_none,qaA,qht,List.all_append,qfv,qkQ,qgS,qne,qgW,qiJ,qjy,qgR,qsY,qiP,qfF,qa7,qaE,qaL,qba,qac,qaf,qaW,qdd,qc6,qdq,qcL,qpI,qli,qaj,qbv,qdV,qbp,qdm,Option.isNone_some,Option.isNone_none,qe2,qoD,qi6,qa6,qbK,qbt,qbL,qbB,Nat.mul_one,List.length_set,qjH,Int.le_refl,qd1,qqq,qo5,qrq,qps,key]
def qeK (p:Int × Int):AVal:=.agg [.int .i64 p.1,.int .i64 p.2]
theorem qf8 (p:Int × Int):qeK p=.agg [.int .i64 p.1,.int .i64 p.2]:=rfl
theorem qlz (l:List (Int × Int)):qaq (l.map qeK)=true:=by
 induction l with
 | nil=>rfl
 | cons p l ih=>rw[List.map_cons,qaq,ih];rfl
def qdn (srt:List (Int × Int)→List (Int × Int)) (e:List CExpr):List (Int × Int) × Int:=if qbw e=0 then (srt (qdA e),0) else ([],qbw e)
section
variable {L:Lib} (hL:Plain L)
include hL
theorem qk2 (h267:L.fns 267=some fn267) (h276:L.fns 276=some fn276) (h290:L.fns 290=some fn290) (h277:L.fns 277=some fn277) (srt:List (Int × Int)→List (Int × Int)) (hsrt:∀ l,(srt l).Perm l) (e:List CExpr) (hl:e.length<2 ^ 30)
  (hfact:∀ h:Heap,pcall L 275 [] h=some (.val (.bool true),h)) (hof:∀ h:Heap,pcall L 274 [.list (e.map qal) none] h=some (.val (.tuple [.list ((qdn srt e).1.map qeK) none,.int .i64 (qdn srt e).2]),h)) (hul:(qdn srt e).1.length<2 ^ 30) (h:Heap) :
  pcall L 267 [.list (e.map qal) none] h=some (.val (.bool true),h):=by
 have hp:=hL.pure
 have hdE:=qaW e
 refine qa5 hL h267 rfl ?_ h
 by_cases hz:qbw e=0
 ·have hu:qdn srt e=(srt (qdA e),0):=by unfold qdn;rw[if_pos hz]
  rw[hu] at hof hul
  dsimp only at hof hul
  have hmem:∀ u∈srt (qdA e),(e.any fun x=>x.op==0 && x.n==u.1) = !(u.2==0):=by
   intro u hu
   have hu':=(hsrt _).mem_iff.1 hu
   unfold qdA at hu'
   obtain⟨n,_,rfl⟩:=List.mem_map.1 hu'
   have:=qqy hz n
   dsimp only
   by_cases h0:qjh (qk5 (qbO e) 0 u0) n=0
   ·rw[this.1 h0,h0];rfl
   ·cases hq:(e.any fun x=>x.op==0 && x.n==n) with
    | false=>exact absurd (this.2 hq) h0
    | true=>simp[h0]
  generalize srt (qdA e)=l at *
  have hdU:=qlz l
  have hloop:qbd L.pure (call L) 0 [0,21,22,23] [2] 0 qhF ⟨kt [0,21,22,23] [.list (e.map qal) none,.list (l.map qeK) none,.int .i64 l.length,.int .i64 ((0:Nat):Int)],[]⟩=some (.normal,⟨kt [2] [.junk],[]⟩):=by
   refine qiG (fun i=>⟨kt [0,21,22,23] [.list (e.map qal) none,.list (l.map qeK) none,.int .i64 l.length,.int .i64 i],[]⟩) l.length ?_ ?_
   ·intro i hi
    obtain⟨h1,h2,h3⟩:=qaV qeK l hul i hi
    have hm:=hmem l[i] (List.getElem_mem hi)
    have hc:=quO hL h276 h290 (.func 277 [] [.vptr [.int .i64 l[i].1,.int .i64 l[i].2] 0]) rfl ⟨_,_,_,rfl⟩ (fun x=>x.op==0 && x.n==l[i].1) e hl (fun x hx h=>qsq hL h277 x l[i].1 l[i].2 h)
    rw[hm] at hc
    generalize l[i]=u at *
    rw[qf8] at h3
    cases hq:(u.2==0)<;>rw[hq] at hc<;>unfold qhF<;>simp -implicitDefEqProofs only[ev_,aOp,opd,qaa,qau,qaC,qaB,aEq,qae,qab,qah,qaQ,qaH,qak,leaf,qas,qan,ren,renC,qaN,qa3,↓reduceIte,reduceCtorEq,Nat.reduceEqDiff,Nat.reduceAdd,Nat.reduceLT,frz,frzC,qhH,h1,h2,h3,hc,hq,hdE,hdU,qar L hp,hp]
   ·have h0:=qa0 l.length
    unfold qhF
    simp -implicitDefEqProofs only[ev_,aOp,opd,qaa,qaC,qaB,qab,gcE,qan,ren,renC,qaN,qa3,↓reduceIte,reduceCtorEq,Nat.reduceEqDiff,h0,hdE,hdU]
  simp only[Int.natCast_zero] at hloop
  unfold fn267
  simp -implicitDefEqProofs only[ev_,aOp,opd,qaa,qaC,qbu,qaB,qab,qaw,qad,qai,qam,qan,ren,renC,qaN,qa3,↓reduceIte,reduceCtorEq,Nat.reduceEqDiff,qaA,qaj,hof,hfact,hloop,hdE,hdU,qar L hp,hp,bne]
 ·have hu:qdn srt e=([],qbw e):=by unfold qdn;rw[if_neg hz]
  rw[hu] at hof
  dsimp only at hof
  rw[List.map_nil] at hof
  have hne:(qbw e==0)=false:=by simpa using hz
  generalize qbw e=r at *
  unfold fn267
  simp -implicitDefEqProofs only[ev_,aOp,opd,qaa,qaC,qbu,qaB,qab,qag,qaw,qad,qai,qam,↓reduceIte,reduceCtorEq,Nat.reduceEqDiff,qaA,qaj,hof,hfact,hne,hdE,qar L hp,hp,bne,Int.natCast_zero]
end
end Go.Abs
