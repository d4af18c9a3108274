/-
  PARTS OF A PROOF, joined: an abstract machine for quiet code, its evaluation, and what the seat's functions answer on it. Conditions: none.
-/
import Derived.Test.YtjbgooldkkbdmaaDoorUA
set_option linter.unusedVariables false
set_option linter.unusedSimpArgs false
set_option maxRecDepth 100000
set_option maxHeartbeats 4000000
namespace Go.Abs
section
variable {L:Lib} (hL:Plain L)
include hL
theorem qxN (h295:L.fns 295=some fn295) (h236:L.fns 236=some fn236) (op n:Int) (binds:List Int) (kids:List CTree) (alts:List CAlt) (hb:(binds++alts.flatMap (·.binds)).length<2 ^ 30) (hk:kids.length<2 ^ 30) (ha:alts.length<2 ^ 30)
  (ih:∀ k∈kids,qw0 L k) (d:Int) (hd0:0≤d) (hd:d+(qqw kids+1:Nat)<2 ^ 40) (s0:US) (N:Nat) (hs:UB s0 N) (hN:N+qaE kids<2 ^ 40) :
  qbl L.pure (call L) 4 [0,1,2,50,51,52] [] 0 qfU
   ⟨kt [0,1,2,50,51,52] [.ptr (some (0,0)),qaB (.mk op n binds kids alts),.int .i64 d,.list (kids.map qaB) none,.int .i64 kids.length,.int .i64 ((0:Nat):Int)],uh s0⟩ =
   some (.normal,⟨kt [] [],uh (qgz op binds alts kids 0 d s0)⟩):=by
 have hp:=hL.pure
 have hT:=qei (.mk op n binds kids alts)
 have hKs:=qej kids
 have key:=qcq (pure:=L.pure) (call:=call L) (b:=4) (keep:=[0,1,2,50,51,52]) (fk:=[]) (id:=0) (body:=qfU) (ε:=Unit) kids (fun i s k=>.ok (qlQ k (qcE op i d) (setD (qaQ op binds alts i) (qcE op i d) s)))
  (fun s j=>⟨kt [0,1,2,50,51,52] [.ptr (some (0,0)),qaB (.mk op n binds kids alts),.int .i64 d,.list (kids.map qaB) none,.int .i64 kids.length,.int .i64 j],uh s⟩)
  (fun s=>⟨kt [] [],uh s⟩) (fun _ _=>False) (fun s i=>UB s (N+qaE (kids.take i))) s0 (by rw[List.take_zero,qaE];exact hs) ?_ ?_ ?_
 ·exact (key.1 _ (qkY op binds alts d kids 0 s0)).2
 ·intro i hi s s' hs hq
  injection hq with hq
  obtain⟨h1,h2,h3⟩:=qaT qaB kids hk i hi
  have hih:=ih kids[i] (List.getElem_mem hi)
  have hh:=qgZ (List.getElem_mem hi)
  have hts:qaE (kids.take (i+1))=qaE (kids.take i)+qbs kids[i]:=by
   rw[List.take_succ_eq_append_getElem hi]
   generalize kids.take i=pre
   induction pre with
   | nil=>rw[List.nil_append,qaE,qaE,qaE];omega
   | cons a pre ih3=>rw[List.cons_append,qaE,qaE,ih3];omega
  have hle:qaE (kids.take (i+1))≤qaE kids:=by
   conv=>rhs;rw[← List.take_append_drop (i+1) kids]
   generalize kids.take (i+1)=pre
   induction pre with
   | nil=>rw[qaE];omega
   | cons a pre ih3=>rw[List.cons_append,qaE,qaE];omega
  have hUB:UB (setD (qaQ op binds alts i) (qcE op i d) s) (N+qaE (kids.take i)):=hs
  have hdd:qcE op i d=d∨qcE op i d=d+1:=by unfold qcE;split<;>simp
  have hcall:=hih (qcE op i d) (setD (qaQ op binds alts i) (qcE op i d) s) (N+qaE (kids.take i)) (by omega) (by omega) hUB (by omega)
  refine⟨?_,by rw[← hq,hts,← Nat.add_assoc];exact UB.walk kids[i] _ _ _ hUB⟩
  have hrep:=qqf hL h295 op [.int .i64 n,.list (binds.map qau) none,.list (kids.map qaB) none,.list (alts.map qan) none] i
  have hbd:=qoA hL h236 op n binds (.list (kids.map qaB) none) alts ha i (by omega)
  have hbl:=ql2 op binds alts i
  have hl0:=qxM (L:=L) (qaB (.mk op n binds kids alts)) (.list (kids.map qaB) none) hT (by rw[qbc];exact hKs) kids[i] (qaQ op binds alts i) (by omega) d (qcE op i d) kids.length i s
  rw[← hq]
  rw[qbG] at hl0 hT
  rw[qbG]
  simp only[Int.natCast_zero] at hl0
  have hdI:=qac (qaQ op binds alts i)
  obtain⟨tc,htc,hdt⟩:=qdv kids[i]
  rw[htc] at h3 hcall hl0
  have hw:IntKind.i64.wrap (d+1)=d+1:=qcT (by omega) (by omega)
  by_cases hr:op=2∨(op=13∧0<i)
  ·have hdeep:qcE op i d=d+1:=by unfold qcE;rw[if_pos hr]
   have hdec:decide (op=2∨(op=13∧0<i))=true:=by simpa using hr
   rw[hdec] at hrep
   rw[hdeep] at hl0 hcall ⊢
   unfold uh at hl0 hcall ⊢
   unfold qfU
   simp -implicitDefEqProofs only[ev_,aOp,opd,qaa,qaD,qbC,qaC,qae,qab,qag,qas,ren,renC,qa0,qbh,↓reduceIte,reduceCtorEq,Nat.reduceEqDiff,Nat.reduceAdd,Nat.reduceLT,Nat.reduceLeDiff,qay,qac,qah,h1,h2,h3,hrep,hbd,hl0,hcall,hw,hKs,hdI,hdt,qds,qdt,qap L hp,hp]
  ·have hdeep:qcE op i d=d:=by unfold qcE;rw[if_neg hr]
   have hdec:decide (op=2∨(op=13∧0<i))=false:=by simpa using hr
   rw[hdec] at hrep
   rw[hdeep] at hl0 hcall ⊢
   unfold uh at hl0 hcall ⊢
   unfold qfU
   simp -implicitDefEqProofs only[ev_,aOp,opd,qaa,qaD,qbC,qaC,qae,qab,qag,qas,ren,renC,qa0,qbh,↓reduceIte,reduceCtorEq,Nat.reduceEqDiff,Nat.reduceAdd,Nat.reduceLT,Nat.reduceLeDiff,qay,qac,qah,h1,h2,h3,hrep,hbd,hl0,hcall,hw,hKs,hdI,hdt,qds,qdt,qap L hp,hp]
 ·intro i hi s e _ hq
  cases hq
 ·intro s hs
  have h0:=qaU kids.length
  rw[qbG]
  unfold uh
  unfold qfU
  simp -implicitDefEqProofs only[ev_,aOp,opd,qaa,qaD,qaC,qab,gcE,qas,ren,renC,qa0,qbh,↓reduceIte,reduceCtorEq,Nat.reduceEqDiff,Nat.reduceAdd,Nat.reduceLT,Nat.reduceLeDiff,h0,hKs,qds,qdt]
theorem qxO (h285:L.fns 285=some fn285) (h295:L.fns 295=some fn295) (h236:L.fns 236=some fn236) (t:CTree) (hf:TFit t):qw0 L t:=by
 have hs:=hL.summ 285 (by rw[h285];simp)
 induction t using CTree.ind with
 | h op n binds kids alts ih =>
   intro d s N hd0 hd hU hN
   cases hf with
   | mk _ _ _ _ _ hb hk ha hfk =>
   rw[qbs] at hN
   rw[hgt] at hd
   rw[qlQ]
   have hU1:UB (if op=0 then qqx n d s else s) (N+1):=by
    split
    ·exact hU.hit n d
    ·intro v;have:=hU v;omega
   have hl1:=qxN hL h295 h236 op n binds kids alts hb hk ha (fun k hkm=>ih k hkm (hfk k hkm)) d hd0 hd (if op=0 then qqx n d s else s) (N+1) hU1 (by omega)
   have hKs:=qej kids
   have hAs:=qah alts
   refine qcW hs h285 ?_
   rw[qbG] at hl1 ⊢
   simp only[Int.natCast_zero] at hl1
   have q1:=hU n
   have w1:IntKind.i64.wrap (qbZ n s.uses+1)=qbZ n s.uses+1:=qcT (by omega) (by omega)
   have w2:IntKind.i64.wrap (qbZ n s.many+1)=qbZ n s.many+1:=qcT (by omega) (by omega)
   have a1:=fun (h:Heap) (hr:h[1]? = some (.map (encB s.uses)))=>qmF h 1 n s.uses hr
   have a2:=fun (h:Heap) (hr:h[2]? = some (.map (encB s.depth)))=>qmF h 2 n s.depth hr
   have a3:=fun (h:Heap) (hr:h[3]? = some (.map (encB s.many)))=>qmF h 3 n s.many hr
   have b1:=fun (h:Heap) (hr:h[1]? = some (.map (encB s.uses)))=>qwV h 1 n (qbZ n s.uses+1) s.uses hr
   have b3:=fun (h:Heap) (hr:h[3]? = some (.map (encB s.many)))=>qwV h 3 n (qbZ n s.many+1) s.many hr
   by_cases h0:op=0
   ·have h0':(op==0)=true:=by simpa using h0
    rw[if_pos h0] at hl1 ⊢
    unfold qqx at hl1 ⊢
    by_cases hlt':qbZ n s.depth<d
    ·simp only[hlt',if_true] at hl1 ⊢
     unfold uh at hl1 ⊢
     unfold fn285
     simp -implicitDefEqProofs only[ev_,aOp,opd,qaa,qat,qaD,qbC,qaC,qab,qaf,qag,qak,qav,qad,qam,qas,ren,renC,qa0,qbh,qbd,↓reduceIte,reduceCtorEq,Nat.reduceEqDiff,Nat.reduceAdd,Nat.reduceLT,Nat.reduceLeDiff,qac,h0',w1,w2,a1,a2,a3,b1,b3,hl1,hlt',hKs,hAs,qds,qdt]
    ·simp only[hlt',if_false] at hl1 ⊢
     unfold uh at hl1 ⊢
     unfold fn285
     simp -implicitDefEqProofs only[ev_,aOp,opd,qaa,qat,qaD,qbC,qaC,qab,qaf,qag,qak,qav,qad,qam,qas,ren,renC,qa0,qbh,qbd,↓reduceIte,reduceCtorEq,Nat.reduceEqDiff,Nat.reduceAdd,Nat.reduceLT,Nat.reduceLeDiff,qac,h0',w1,w2,a1,a2,a3,b1,b3,hl1,hlt',hKs,hAs,qds,qdt]
   ·have h0':(op==0)=false:=by simpa using h0
    rw[if_neg h0] at hl1 ⊢
    unfold uh at hl1 ⊢
    unfold fn285
    simp -implicitDefEqProofs only[ev_,aOp,opd,qaa,qaD,qbC,qaC,qab,qag,qak,qav,qad,qam,qas,ren,renC,qa0,qbh,↓reduceIte,reduceCtorEq,Nat.reduceEqDiff,Nat.reduceAdd,Nat.reduceLT,Nat.reduceLeDiff,qac,h0',hl1,hKs,hAs,qds,qdt]
end
section
variable {L:Lib}
def qxw (op n:Int) (binds:List Int) (kv:AVal) (as:List CAlt) (s:List Int) (i:Nat):St:=⟨kt [3,34,35,36] [.list (s.map qau) (qdb 1 s.length),.list (as.map qan) none,.int .i64 as.length,.int .i64 i],.box [.int .i64 op,.int .i64 n,.list (binds.map qau) none,kv,.list (as.map qan) none]::qby 1 s.length⟩
def qxU (op n:Int) (binds:List Int) (kv:AVal) (as:List CAlt) (s:List Int):St:=⟨kt [3] [.list (s.map qau) (qdb 1 s.length)],.box [.int .i64 op,.int .i64 n,.list (binds.map qau) none,kv,.list (as.map qan) none]::qby 1 s.length⟩
theorem qpy (op n:Int) (binds:List Int) (kv:AVal) (hkv:qar kv=true) (as:List CAlt) (hl:as.length<2 ^ 30) (s0:List Int) (ht:(s0++as.flatMap (·.binds)).length≤2 ^ 30) :
  qbl L.pure (call L) ((qby 1 s0.length).length+1) [3,34,35,36] [3] 0 qbI (qxw op n binds kv as s0 0)=some (.normal,qxU op n binds kv as (s0++as.flatMap (·.binds))):=by
 have hb:(qby 1 s0.length).length=0∨((qby 1 s0.length).length=1∧s0≠[]):=by
  cases s0 with
  | nil=>exact .inl rfl
  | cons a l=>exact .inr ⟨rfl,by simp⟩
 generalize (qby 1 s0.length).length=b at hb
 have key:=qeq (pure:=L.pure) (call:=call L) (b:=b+1) (keep:=[3,34,35,36]) (fk:=[3]) (id:=0) (body:=qbI) as (fun s a=>s++a.binds) (qxw op n binds kv as) (qxU op n binds kv as)
  (fun s i=>s++(as.drop i).flatMap (·.binds)=s0++as.flatMap (·.binds)∧(b=0∨(b=1∧s≠[]))) s0 ⟨rfl,hb⟩ ?_ ?_
 ·obtain⟨⟨h1,_⟩,h2⟩:=key
  rw[List.drop_length,List.flatMap_nil,List.append_nil] at h1
  rw[h2,h1]
 ·intro i hi s hs
  obtain⟨h1,h2,h3⟩:=qaT qan as hl i hi
  obtain⟨hs1,hs2⟩:=hs
  have hd:as.drop i=as[i]::as.drop (i+1):=List.drop_eq_getElem_cons hi
  rw[hd,List.flatMap_cons] at hs1
  have hlen:s.length+as[i].binds.length≤1073741824:=by
   have:=congrArg List.length hs1
   simp only[List.length_append] at this ht
   omega
  refine⟨?_,by rw[List.append_assoc];exact hs1,by rcases hs2 with h | ⟨h,h'⟩;exact .inl h;exact .inr ⟨h,by simp[h']⟩⟩
  clear hs1 hd ht
  generalize as[i]=a at *
  have hs1:=qdZ s
  have hs3:=qdZ a.binds
  unfold qxw
  by_cases hab:a.binds=[]
  ·rw[hab,List.append_nil]
   by_cases hz:s=[]
   ·subst hz
    rcases hs2 with rfl | ⟨rfl,h⟩
    ·unfold qbI
     simp -implicitDefEqProofs only[ev_,aOp,opd,qaa,qat,qaD,qaC,qae,qab,qag,qaP,qaN,qak,leaf,qaq,qas,ren,renC,qa0,qbh,qa4,↓reduceIte,Nat.reduceEqDiff,Nat.reduceAdd,Nat.reduceLeDiff,qbW,qbQ,qaJ,qac,qah,hkv,qah,qac,h1,h2,h3,hab]
    ·exact absurd rfl h
   ·have o1:=qcr (b:=1) (List.length_pos_iff.2 hz)
    have o2:=qbY (sz:=1) (List.length_pos_iff.2 hz)
    rcases hs2 with rfl | ⟨rfl,h⟩<;>unfold qbI<;>simp -implicitDefEqProofs only[ev_,aOp,opd,qaa,qat,qaD,qaC,qae,qab,qag,qaP,qaN,qak,leaf,qaq,qas,ren,renC,qa0,qbh,qa4,↓reduceIte,Nat.reduceEqDiff,Nat.reduceAdd,Nat.reduceLT,Nat.reduceLeDiff,qaJ,qac,qah,hkv,qah,qac,h1,h2,h3,hab,o1,o2]
  ·have hab':((a.binds.map qau)=[])=False:=by simpa using hab
   by_cases hz:s=[]
   ·subst hz
    have o3:=qcr (b:=1) (List.length_pos_iff.2 hab)
    have o4:=qbY (sz:=1) (List.length_pos_iff.2 hab)
    have hlen:a.binds.length≤1073741824:=by simpa using hlen
    rcases hs2 with rfl | ⟨rfl,h⟩
    ·unfold qbI
     simp -implicitDefEqProofs only[ev_,aOp,opd,qaa,qat,qaD,qaC,qae,qab,qag,qaP,qaN,qak,leaf,qaq,qas,ren,renC,qa0,qbh,qa4,↓reduceIte,Nat.reduceEqDiff,Nat.reduceAdd,Nat.reduceLT,Nat.reduceLeDiff,qbW,qbQ,qaJ,qac,qah,hkv,qah,qac,h1,h2,h3,hab',hlen,hs3,o3,o4]
    ·exact absurd rfl h
   ·have o1:=qcr (b:=1) (List.length_pos_iff.2 hz)
    have o2:=qbY (sz:=1) (List.length_pos_iff.2 hz)
    have hpos:=List.length_pos_iff.2 hz
    have o3:qdb 1 (s.length+a.binds.length)=some (some 1):=qcr (by omega)
    have o4:qby 1 (s.length+a.binds.length)=[.tail (s.length+a.binds.length) 1]:=qbY (by omega)
    rcases hs2 with rfl | ⟨rfl,h⟩<;>unfold qbI<;>simp -implicitDefEqProofs only[ev_,aOp,opd,qaa,qat,qaD,qaC,qae,qab,qag,qaP,qaN,qak,leaf,qaq,qas,ren,renC,qa0,qbh,qa4,↓reduceIte,Nat.reduceEqDiff,Nat.reduceAdd,Nat.reduceLT,Nat.reduceLeDiff,qaJ,qac,qah,hkv,qah,qac,h1,h2,h3,hab',hlen,hs1,hs3,o1,o2,o3,o4]
 ·intro s hs
  have h0:=qaU as.length
  unfold qxw qxU
  cases s with
  | nil => 
    rcases hs.2 with rfl | ⟨rfl,h⟩
    ·unfold qbI
     simp -implicitDefEqProofs only[ev_,aOp,opd,qaa,qaD,qaC,qab,gcE,qas,ren,renC,qa0,qbh,↓reduceIte,Nat.reduceEqDiff,qbW,qbQ,qac,qah,hkv,qah,qac,h0]
    ·exact absurd rfl h
  | cons x s =>
    rcases hs.2 with rfl | ⟨rfl,h⟩<;>unfold qbI<;>simp -implicitDefEqProofs only[ev_,aOp,opd,qaa,qaD,qaC,qab,gcE,qas,ren,renC,qa0,qbh,↓reduceIte,Nat.reduceEqDiff,Nat.reduceAdd,Nat.reduceLT,Nat.reduceLeDiff,qf0,qe3,qba,qac,qah,hkv,qah,qac,h0]
theorem qnF (hL:Plain L) (h232:L.fns 232=some fn232) (op n:Int) (binds:List Int) (kv:AVal) (hkv:qar kv=true) (as:List CAlt) (hl:as.length<2 ^ 30) (ht:(binds++as.flatMap (·.binds)).length≤2 ^ 30) :
  call L 232 [.ptr (some (0,0))] [.box [.int .i64 op,.int .i64 n,.list (binds.map qau) none,kv,.list (as.map qan) none]]=some (.val (.list ((qaz op binds as).map qau) (qdb 1 (qaz op binds as).length)),.box [.int .i64 op,.int .i64 n,.list (binds.map qau) none,kv,.list (as.map qan) none]::qby 1 (qaz op binds as).length):=by
 refine qcW (hL.summ 232 (by rw[h232];simp)) h232 ?_
 have tail:∀ (s0:List Int) (tm:Tmps),(s0++as.flatMap (·.binds)).length≤2 ^ 30→tm 0=.ptr (some (0,0))→tm 3=.list (s0.map qau) (qdb 1 s0.length) →
   qav [.tmp 2] (qaM L.pure (call L) qdO ⟨tm,.box [.int .i64 op,.int .i64 n,.list (binds.map qau) none,kv,.list (as.map qan) none]::qby 1 s0.length⟩)=some (.val (.list ((s0++as.flatMap (·.binds)).map qau) (qdb 1 (s0++as.flatMap (·.binds)).length)),.box [.int .i64 op,.int .i64 n,.list (binds.map qau) none,kv,.list (as.map qan) none]::qby 1 (s0++as.flatMap (·.binds)).length):=by
  intro s0 tm hlen h0 h3
  have hloop:=qpy (L:=L) op n binds kv hkv as hl s0 hlen
  unfold qxw qxU at hloop
  simp only[Int.natCast_zero] at hloop
  generalize s0++as.flatMap (·.binds)=r at *
  rcases qeu 1 1 s0.length with ⟨o1,o2⟩ | ⟨o1,o2⟩<;>rw[o1,o2] at hloop<;>rw[o1] at h3<;>rw[o2] <;>
   rcases qeu 1 1 r.length with ⟨o3,o4⟩ | ⟨o3,o4⟩<;>rw[o3,o4] at hloop<;>rw[o3,o4]<;>simp only[List.length_nil,List.length_cons,Nat.zero_add,Nat.reduceAdd] at hloop <;>
   unfold qdO<;>simp -implicitDefEqProofs only[ev_,aOp,opd,qaa,qbC,qag,qak,qav,qad,qai,qam,qas,ren,renC,qa0,qbh,↓reduceIte,Nat.reduceEqDiff,Nat.reduceAdd,Nat.reduceLT,Nat.reduceLeDiff,qac,qah,hkv,h0,h3,hloop]
 have hlB:(as.flatMap (·.binds)).length≤2 ^ 30:=by rw[List.length_append] at ht;omega
 have hall:=qdZ binds
 have hbl:binds.length≤1073741824:=by rw[List.length_append] at ht;omega
 unfold qaz
 have T:=tail
 cases ho:qcb op with
 | true =>
   have e:(op==2)=true∨((op==2)=false∧(op==4)=true)∨((op==2)=false∧(op==4)=false∧(op==5)=true):=by
    unfold qcb at ho
    revert ho
    cases (op==2)<;>cases (op==4)<;>cases (op==5)<;>simp
   rw[if_pos rfl]
   unfold fn232 qnT
   by_cases hb:binds=[]
   ·subst hb
    have T0:=T []
    simp only[List.map_nil,List.length_nil,qbW,qbQ,List.nil_append] at T0 ⊢
    generalize qdO=t at *
    rcases e with e1 | ⟨e1,e2⟩ | ⟨e1,e2,e3⟩
    ·simp -implicitDefEqProofs only[ev_,aOp,opd,qaa,qaD,qaC,qab,qaf,qag,qak,qav,qad,qai,qam,qa4,↓reduceIte,reduceCtorEq,Nat.reduceEqDiff,hkv,e1]
     refine T0 _ hlB ?_ ?_<;>simp -implicitDefEqProofs only[ev_,↓reduceIte,reduceCtorEq,hkv]
    ·simp -implicitDefEqProofs only[ev_,aOp,opd,qaa,qaD,qaC,qab,qaf,qag,qak,qav,qad,qai,qam,qa4,↓reduceIte,reduceCtorEq,Nat.reduceEqDiff,hkv,e1,e2]
     refine T0 _ hlB ?_ ?_<;>simp -implicitDefEqProofs only[ev_,↓reduceIte,reduceCtorEq,hkv]
    ·simp -implicitDefEqProofs only[ev_,aOp,opd,qaa,qaD,qaC,qab,qaf,qag,qak,qav,qad,qai,qam,qa4,↓reduceIte,reduceCtorEq,Nat.reduceEqDiff,hkv,e1,e2,e3]
     refine T0 _ hlB ?_ ?_<;>simp -implicitDefEqProofs only[ev_,↓reduceIte,reduceCtorEq,hkv]
   ·have hb':((binds.map qau)=[])=False:=by simpa using hb
    have o1:=qcr (b:=1) (List.length_pos_iff.2 hb)
    have o2:=qbY (sz:=1) (List.length_pos_iff.2 hb)
    have T1:=T binds
    rw[o1,o2] at T1
    generalize hres:(some (ARes.val (AVal.list ((binds++as.flatMap (·.binds)).map qau) (qdb 1 (binds++as.flatMap (·.binds)).length)),(.box [.int .i64 op,.int .i64 n,.list (binds.map qau) none,kv,.list (as.map qan) none]::qby 1 (binds++as.flatMap (·.binds)).length:Heap)):Option (ARes × Heap))=res at *
    generalize qdO=t at *
    rcases e with e1 | ⟨e1,e2⟩ | ⟨e1,e2,e3⟩
    ·simp -implicitDefEqProofs only[ev_,aOp,opd,qaa,qaD,qaC,qab,qaf,qag,qak,qav,qad,qai,qam,qa4,↓reduceIte,reduceCtorEq,Nat.reduceEqDiff,hkv,e1,hb',hall,hbl]
     refine T1 _ ht ?_ ?_<;>simp -implicitDefEqProofs only[ev_,↓reduceIte,reduceCtorEq,hkv]
    ·simp -implicitDefEqProofs only[ev_,aOp,opd,qaa,qaD,qaC,qab,qaf,qag,qak,qav,qad,qai,qam,qa4,↓reduceIte,reduceCtorEq,Nat.reduceEqDiff,hkv,e1,e2,hb',hall,hbl]
     refine T1 _ ht ?_ ?_<;>simp -implicitDefEqProofs only[ev_,↓reduceIte,reduceCtorEq,hkv]
    ·simp -implicitDefEqProofs only[ev_,aOp,opd,qaa,qaD,qaC,qab,qaf,qag,qak,qav,qad,qai,qam,qa4,↓reduceIte,reduceCtorEq,Nat.reduceEqDiff,hkv,e1,e2,e3,hb',hall,hbl]
     refine T1 _ ht ?_ ?_<;>simp -implicitDefEqProofs only[ev_,↓reduceIte,reduceCtorEq,hkv]
 | false =>
   have e:(op==2)=false∧(op==4)=false∧(op==5)=false:=by
    unfold qcb at ho
    revert ho
    cases (op==2)<;>cases (op==4)<;>cases (op==5)<;>simp
   obtain⟨e1,e2,e3⟩:=e
   rw[if_neg (by decide)]
   have T0:=T []
   simp only[List.map_nil,List.length_nil,qbW,qbQ,List.nil_append] at T0 ⊢
   generalize hres:(some (ARes.val (AVal.list ((as.flatMap (·.binds)).map qau) (qdb 1 (as.flatMap (·.binds)).length)),(.box [.int .i64 op,.int .i64 n,.list (binds.map qau) none,kv,.list (as.map qan) none]::qby 1 (as.flatMap (·.binds)).length:Heap)):Option (ARes × Heap))=res at *
   unfold fn232
   generalize qdO=t at *
   simp -implicitDefEqProofs only[ev_,aOp,opd,qaa,qaD,qaC,qab,qaf,qag,qak,qav,qad,qai,qam,↓reduceIte,reduceCtorEq,Nat.reduceEqDiff,hkv,e1,e2,e3]
   exact T0 _ hlB (by simp -implicitDefEqProofs only[ev_,↓reduceIte,reduceCtorEq]) (by simp -implicitDefEqProofs only[ev_,↓reduceIte,Nat.reduceEqDiff])
end
def qd1 (p:Int × Int):AVal:=.agg [.int .i64 p.1,.int .i64 p.2]
theorem qgL (p:Int × Int):qd1 p=.agg [.int .i64 p.1,.int .i64 p.2]:=rfl
theorem qdN (l:List (Int × Int)):qao (l.map qd1)=true:=by
 induction l with
 | nil=>rfl
 | cons p l ih=>rw[List.map_cons,qao,ih];rfl
def qlN (srt:List (Int × Int)→List (Int × Int)) (e:List CExpr):List (Int × Int) × Int:=if qa5 e=0 then (srt (qb7 e),0) else ([],qa5 e)
section
end
end Go.Abs
