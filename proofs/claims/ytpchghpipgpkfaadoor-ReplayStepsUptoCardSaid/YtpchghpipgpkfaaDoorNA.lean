/-
  PARTS OF A PROOF, joined: an abstract machine for quiet code, its evaluation, and what the seat's functions answer on it. Conditions: none.
-/
import Derived.Test.YtpchghpipgpkfaaDoorW
import Derived.Test.YtpchghpipgpkfaaDoorPA
set_option linter.unusedVariables false
set_option linter.unusedSimpArgs false
set_option maxRecDepth 100000
set_option maxHeartbeats 4000000
namespace Go.Abs
inductive CNode where
 | mk (op n:Int) (binds xk:List Int) (kids:List CNode) (alts:List CAlt)
def qbB:CNode→AVal
 | .mk op n binds xk kids alts=>.vptr [.int .i64 op,.int .i64 n,.list (binds.map qau) none,.list (xk.map qau) none,.list (alts.map qaq) none,.list (kids.attach.map fun k=>qbB k.1) none] 0
 termination_by t=>SizeOf.sizeOf t
 decreasing_by
  have:=List.sizeOf_lt_of_mem k.2
  simp only[CNode.mk.sizeOf_spec]
  omega
def qaE:CNode→CTree
 | .mk op n binds xk kids alts=>.mk op n binds (kids.attach.map fun k=>qaE k.1) alts
 termination_by t=>SizeOf.sizeOf t
 decreasing_by
  have:=List.sizeOf_lt_of_mem k.2
  simp only[CNode.mk.sizeOf_spec]
  omega
theorem qdJ (op n:Int) (binds xk:List Int) (kids:List CNode) (alts:List CAlt):qbB (.mk op n binds xk kids alts)=.vptr [.int .i64 op,.int .i64 n,.list (binds.map qau) none,.list (xk.map qau) none,.list (alts.map qaq) none,.list (kids.map qbB) none] 0:=by
 rw[qbB]
 simp
theorem qhB (op n:Int) (binds xk:List Int) (kids:List CNode) (alts:List CAlt):qaE (.mk op n binds xk kids alts)=.mk op n binds (kids.map qaE) alts:=by
 rw[qaE]
 simp
theorem CNode.ind {P:CNode→Prop} (h:∀ op n binds xk kids alts,(∀ k∈kids,P k)→P (.mk op n binds xk kids alts)):∀ t,P t
 | .mk op n binds xk kids alts=>h op n binds xk kids alts fun k hk=>CNode.ind h k
 termination_by t=>SizeOf.sizeOf t
 decreasing_by
  have:=List.sizeOf_lt_of_mem hk
  simp only[CNode.mk.sizeOf_spec]
  omega
theorem qg5 (t:CNode):qaC (qbB t)=true:=by
 induction t using CNode.ind with
 | h op n binds xk kids alts ih =>
   rw[qdJ]
   have:qaw (kids.map qbB)=true:=by
    clear op n binds xk alts
    induction kids with
    | nil=>rfl
    | cons k ks ih'=>rw[List.map_cons,qaw,ih k (by simp),ih' fun x hx=>ih x (by simp[hx])];rfl
   simp only[qaC,qaw,qah,qan,this,Bool.and_self]
theorem qfO (l:List CNode):qaw (l.map qbB)=true:=qc1 _ qg5 l
theorem qfk (t:CNode):∃ tc,qbB t=.vptr tc 0∧qaw tc=true:=by
 have h:=qg5 t
 cases t
 rw[qdJ] at h ⊢
 exact⟨_,rfl,h⟩
def mh (outs:List CExpr):Heap:=[.box [.list (outs.map qam) (qck 1 outs.length)]]++qbx 5 outs.length
theorem qsJ:mh []=[.box [.list [] (some none)]]:=rfl
theorem qjW {outs:List CExpr} (h:0<outs.length):mh outs=[.box [.list (outs.map qam) (some (some 1))],.tail outs.length 5]:=by
 unfold mh
 rw[qdl h,qcF h]
 rfl
def qmu (L:Lib) (t:CNode):Prop:=∀ outs:List CExpr,outs.length+qaP (qaE t)<2 ^ 30→call L 183 [qbB t,.ptr (some (0,0))] (mh outs)=some (.val (.int .i64 ((outs.length+qaP (qaE t)-1:Nat):Int)),mh (outs++qcq (qaE t) outs.length))
def nA (op n:Int) (binds:List Int) (kids:List CNode) (alts:List CAlt) (outs:List CExpr) (ids:List Int) (j:Nat):St :=
 ⟨kt [1,5,16,17,18] [.ptr (some (0,0)),.ptr (some (2,0)),.list (kids.map qbB) none,.int .i64 kids.length,.int .i64 j],
  [.box [.list (outs.map qam) (some (some 1))],.tail outs.length 5,.box [.int .i64 op,.int .i64 n,.list (binds.map qau) none,.list (ids.map qau) (qck 3 j),.list (alts.map qaq) none]]++qbx 1 j⟩
def nA' (op n:Int) (binds:List Int) (alts:List CAlt) (outs:List CExpr) (ids:List Int) (j:Nat):St :=
 ⟨kt [1,5] [.ptr (some (0,0)),.ptr (some (2,0))],
  [.box [.list (outs.map qam) (some (some 1))],.tail outs.length 5,.box [.int .i64 op,.int .i64 n,.list (binds.map qau) none,.list (ids.map qau) (qck 3 j),.list (alts.map qaq) none]]++qbx 1 j⟩
section
variable {L:Lib} (hL:Plain L)
include hL
theorem qu9 (op n:Int) (binds:List Int) (kids:List CNode) (alts:List CAlt) (outs:List CExpr) (h0:0<outs.length) (hsz:outs.length+qaB (kids.map qaE)<2 ^ 30) (hkl:kids.length<2 ^ 30) (ih:∀ k∈kids,qmu L k) :
  qa6 L.pure (call L) 3 [1,5,16,17,18] [1,5] 0 qcK (nA op n binds kids alts outs [] 0)=some (.normal,nA' op n binds alts (outs++qaK (kids.map qaE) outs.length) (qaM (kids.map qaE) outs.length) kids.length):=by
 have hp:=hL.pure
 have hdT:=qfO kids
 have hdX:=qan alts
 have hC:=qgM (pure:=L.pure) (call:=call L) (b:=3) (keep:=[1,5,16,17,18]) (fk:=[1,5]) (id:=0) (body:=qcK)
  (fun j=>nA op n binds kids alts (outs++qaK ((kids.map qaE).take j) outs.length) (qaM ((kids.map qaE).take j) outs.length) j) kids.length (T:=nA' op n binds alts (outs++qaK (kids.map qaE) outs.length) (qaM (kids.map qaE) outs.length) kids.length) ?_ ?_
 ·have e0:qaK ((kids.map qaE).take 0) outs.length=[]:=by rw[List.take_zero,qaK]
  have e1:qaM ((kids.map qaE).take 0) outs.length=[]:=by rw[List.take_zero,qaM]
  simp only[e0,e1,List.append_nil] at hC
  exact hC
 ·intro j hj
  obtain⟨h1,h2,h3⟩:=qaR qbB kids hkl j hj
  have hw:=ih kids[j] (List.getElem_mem hj) (outs++qaK ((kids.map qaE).take j) outs.length)
  have hlen:(outs++qaK ((kids.map qaE).take j) outs.length).length=outs.length+qaB ((kids.map qaE).take j):=by rw[List.length_append,qdR]
  have hj2:j<(kids.map qaE).length:=by simpa using hj
  have hle:=qfF (kids.map qaE) (j+1)
  rw[qkn (kids.map qaE) j hj2,List.getElem_map] at hle
  have hrl:(qaM ((kids.map qaE).take j) outs.length).length=j:=by rw[qdV];simp;omega
  have hjj:j+1≤1073741824:=by omega
  rw[List.take_succ_eq_append_getElem hj2,List.getElem_map,qgK,qfx,← List.append_assoc,← hlen]
  have hw:=hw (by rw[hlen];omega)
  have hpos:0<(outs++qaK ((kids.map qaE).take j) outs.length).length:=by rw[hlen];omega
  generalize outs++qaK ((kids.map qaE).take j) outs.length=ou at *
  generalize qaM ((kids.map qaE).take j) outs.length=ids at *
  generalize kids[j]=kid at *
  have hpos2:0<(ou++qcq (qaE kid) ou.length).length:=by rw[List.length_append];omega
  rw[qjW hpos,qjW hpos2] at hw
  have hdO:=qaz ou
  generalize ou++qcq (qaE kid) ou.length=ou2 at *
  have hdO2:=qaz ou2
  have hall:=qdw ids
  have hdI:=qah ids
  obtain⟨tc,htc,hdt⟩:=qfk kid
  rw[htc] at hw
  rcases Nat.eq_zero_or_pos j with hz | hz
  ·have:ids=[]:=List.length_eq_zero_iff.1 (by omega)
   subst this
   have o1:qck 3 j=some none:=by rw[hz];rfl
   have o2:qbx 1 j=[]:=by rw[hz];rfl
   have o3:j+1=1:=by omega
   unfold qcK nA
   simp -implicitDefEqProofs only[ev_,aOp,opd,qaa,qas,qay,qax,qad,qab,qaf,qag,qaN,qai,leaf,qap,qav,ren,renC,qa1,qba,qaA,qbi,↓reduceIte,reduceCtorEq,Nat.reduceEqDiff,Nat.reduceAdd,Nat.reduceSub,Nat.reduceLT,Nat.reduceLeDiff,forall_const,forall_eq_or_imp,forall_eq,qeq,qdX,qa9,qah,h1,h2,h3,hw,hdT,hdX,hdO,hdO2,htc,hdt,o1,o2,o3,qal L hp,hp]
  ·have o1:=qdl (b:=3) hz
   have o2:=qcF (sz:=1) hz
   unfold qcK nA
   simp -implicitDefEqProofs only[ev_,aOp,opd,qaa,qas,qay,qax,qad,qab,qaf,qag,qaN,qai,leaf,qap,qav,ren,renC,qa1,qba,qaA,qbi,↓reduceIte,reduceCtorEq,Nat.reduceEqDiff,Nat.reduceAdd,Nat.reduceSub,Nat.reduceLT,Nat.reduceLeDiff,forall_const,forall_eq_or_imp,forall_eq,qeq,qdX,qa9,qah,h1,h2,h3,hw,hdT,hdX,hdO,hdO2,htc,hdt,hall,hdI,hrl,hjj,o1,o2,qal L hp,hp]
 ·have h0':=qaS kids.length
  have ht:(kids.map qaE).take kids.length=kids.map qaE:=List.take_of_length_le (by simp)
  rw[ht]
  generalize outs++qaK (kids.map qaE) outs.length=ou
  have hdO:=qaz ou
  have hdI:=qah (qaM (kids.map qaE) outs.length)
  generalize qaM (kids.map qaE) outs.length=ids at *
  unfold qcK nA nA'
  rcases qhx 3 1 kids.length with ⟨o1,o2⟩ | ⟨o1,o2⟩<;>simp -implicitDefEqProofs only[ev_,aOp,opd,qaa,qay,qax,qab,gcE,qav,ren,renC,qa1,qba,↓reduceIte,Nat.reduceEqDiff,Nat.reduceAdd,Nat.reduceLT,Nat.reduceLeDiff,qah,h0',hdT,hdX,hdO,hdI,o1,o2]
def nHB (op n:Int) (binds:List Int) (alts:List CAlt) (outs:List CExpr) (ids:List Int) (j:Nat):Heap :=
 if j=0 then [.box [.list [] (some none)],.box [.int .i64 op,.int .i64 n,.list (binds.map qau) none,.list [] (some none),.list (alts.map qaq) none]]
 else [.box [.list (outs.map qam) (some (some 2))],.box [.int .i64 op,.int .i64 n,.list (binds.map qau) none,.list (ids.map qau) (some (some 3)),.list (alts.map qaq) none],.tail outs.length 5,.tail j 1]
def nB (op n:Int) (binds:List Int) (kids:List CNode) (alts:List CAlt) (outs:List CExpr) (ids:List Int) (j:Nat):St :=
 ⟨kt [1,5,16,17,18] [.ptr (some (0,0)),.ptr (some (1,0)),.list (kids.map qbB) none,.int .i64 kids.length,.int .i64 j],nHB op n binds alts outs ids j⟩
def nB' (op n:Int) (binds:List Int) (alts:List CAlt) (outs:List CExpr) (ids:List Int) (j:Nat):St :=
 ⟨kt [1,5] [.ptr (some (0,0)),.ptr (some (1,0))],nHB op n binds alts outs ids j⟩
theorem qva (op n:Int) (binds:List Int) (kids:List CNode) (alts:List CAlt) (hsz:qaB (kids.map qaE)<2 ^ 30) (hkl:kids.length<2 ^ 30) (ih:∀ k∈kids,qmu L k) :
  qa6 L.pure (call L) 2 [1,5,16,17,18] [1,5] 0 qcK (nB op n binds kids alts [] [] 0)=some (.normal,nB' op n binds alts (qaK (kids.map qaE) 0) (qaM (kids.map qaE) 0) kids.length):=by
 have hp:=hL.pure
 have hdT:=qfO kids
 have hdX:=qan alts
 have hC:=qgM (pure:=L.pure) (call:=call L) (b:=2) (keep:=[1,5,16,17,18]) (fk:=[1,5]) (id:=0) (body:=qcK)
  (fun j=>nB op n binds kids alts (qaK ((kids.map qaE).take j) 0) (qaM ((kids.map qaE).take j) 0) j) kids.length (T:=nB' op n binds alts (qaK (kids.map qaE) 0) (qaM (kids.map qaE) 0) kids.length) ?_ ?_
 ·have e0:qaK ((kids.map qaE).take 0) 0=[]:=by rw[List.take_zero,qaK]
  have e1:qaM ((kids.map qaE).take 0) 0=[]:=by rw[List.take_zero,qaM]
  simp only[e0,e1] at hC
  exact hC
 ·intro j hj
  obtain⟨h1,h2,h3⟩:=qaR qbB kids hkl j hj
  have hw:=ih kids[j] (List.getElem_mem hj) (qaK ((kids.map qaE).take j) 0)
  have hlen:(qaK ((kids.map qaE).take j) 0).length=0+qaB ((kids.map qaE).take j):=by rw[qdR];omega
  have hj2:j<(kids.map qaE).length:=by simpa using hj
  have hle:=qfF (kids.map qaE) (j+1)
  rw[qkn (kids.map qaE) j hj2,List.getElem_map] at hle
  have hrl:(qaM ((kids.map qaE).take j) 0).length=j:=by rw[qdV];simp;omega
  have hjj:j+1≤1073741824:=by omega
  rw[List.take_succ_eq_append_getElem hj2,List.getElem_map,qgK,qfx,← hlen]
  have hw:=hw (by rw[hlen];omega)
  have hkp:0<qaP (qaE kids[j]):=qdp _
  have hz0:j=0→qaK ((kids.map qaE).take j) 0=[]:=by intro h;rw[h,List.take_zero,qaK]
  have hzp:0<j→0<(qaK ((kids.map qaE).take j) 0).length:=by
   intro h
   rw[hlen]
   cases kids with
   | nil=>simp at hj
   | cons x xs =>
     cases j with
     | zero=>omega
     | succ j=>rw[List.map_cons,List.take_succ_cons,qaB];have:=qdp (qaE x);omega
  have hll:(qcq (qaE kids[j]) (qaK ((kids.map qaE).take j) 0).length).length=qaP (qaE kids[j]):=qde _ _
  generalize qaK ((kids.map qaE).take j) 0=ou at *
  generalize qaM ((kids.map qaE).take j) 0=ids at *
  generalize kids[j]=kid at *
  have hpos2:0<(ou++qcq (qaE kid) ou.length).length:=by rw[List.length_append];omega
  rw[qjW hpos2] at hw
  have hdO:=qaz ou
  have hall:=qdw ids
  have hdI:=qah ids
  obtain⟨tc,htc,hdt⟩:=qfk kid
  rw[htc] at hw
  have e3:∀ a b,nHB op n binds alts a b (j+1)=[.box [.list (a.map qam) (some (some 2))],.box [.int .i64 op,.int .i64 n,.list (binds.map qau) none,.list (b.map qau) (some (some 3)),.list (alts.map qaq) none],.tail a.length 5,.tail (j+1) 1]:=fun a b=>if_neg (by omega)
  rcases Nat.eq_zero_or_pos j with hz | hz
  ·have:ids=[]:=List.length_eq_zero_iff.1 (by omega)
   subst this
   have:=hz0 hz
   subst this
   rw[qsJ] at hw
   have o3:j+1=1:=by omega
   have e4:nHB op n binds alts [] [] j=[.box [.list [] (some none)],.box [.int .i64 op,.int .i64 n,.list (binds.map qau) none,.list [] (some none),.list (alts.map qaq) none]]:=if_pos hz
   generalize []++qcq (qaE kid) ([]:List CExpr).length=ou2 at *
   have hdO2:=qaz ou2
   unfold qcK nB
   rw[e3,e4]
   simp -implicitDefEqProofs only[ev_,aOp,opd,qaa,qas,qay,qax,qad,qab,qaf,qag,qaN,qai,leaf,qap,qav,ren,renC,qa1,qba,qaA,qbi,↓reduceIte,reduceCtorEq,Nat.reduceEqDiff,Nat.reduceAdd,Nat.reduceSub,Nat.reduceLT,Nat.reduceLeDiff,forall_const,forall_eq_or_imp,forall_eq,qa9,qah,h1,h2,h3,hw,hdT,hdX,hdO2,htc,hdt,o3,qal L hp,hp]
  ·rw[qjW (hzp hz)] at hw
   have e4:nHB op n binds alts ou ids j=[.box [.list (ou.map qam) (some (some 2))],.box [.int .i64 op,.int .i64 n,.list (binds.map qau) none,.list (ids.map qau) (some (some 3)),.list (alts.map qaq) none],.tail ou.length 5,.tail j 1]:=if_neg (by omega)
   generalize ou++qcq (qaE kid) ou.length=ou2 at *
   have hdO2:=qaz ou2
   unfold qcK nB
   rw[e3,e4]
   simp -implicitDefEqProofs only[ev_,aOp,opd,qaa,qas,qay,qax,qad,qab,qaf,qag,qaN,qai,leaf,qap,qav,ren,renC,qa1,qba,qaA,qbi,↓reduceIte,reduceCtorEq,Nat.reduceEqDiff,Nat.reduceAdd,Nat.reduceSub,Nat.reduceLT,Nat.reduceLeDiff,forall_const,forall_eq_or_imp,forall_eq,qa9,qah,h1,h2,h3,hw,hdT,hdX,hdO,hdO2,htc,hdt,hall,hdI,hrl,hjj,qal L hp,hp]
 ·have h0':=qaS kids.length
  have ht:(kids.map qaE).take kids.length=kids.map qaE:=List.take_of_length_le (by simp)
  rw[ht]
  have hdO:=qaz (qaK (kids.map qaE) 0)
  have hdI:=qah (qaM (kids.map qaE) 0)
  generalize qaK (kids.map qaE) 0=ou at *
  generalize qaM (kids.map qaE) 0=ids at *
  unfold qcK nB nB' nHB
  by_cases hz:kids.length=0
  ·rw[if_pos hz]
   simp -implicitDefEqProofs only[ev_,aOp,opd,qaa,qay,qax,qab,gcE,qav,ren,renC,qa1,qba,↓reduceIte,Nat.reduceEqDiff,Nat.reduceAdd,Nat.reduceLT,Nat.reduceLeDiff,qah,h0',hdT,hdX]
  ·rw[if_neg hz]
   simp -implicitDefEqProofs only[ev_,aOp,opd,qaa,qay,qax,qab,gcE,qav,ren,renC,qa1,qba,↓reduceIte,Nat.reduceEqDiff,Nat.reduceAdd,Nat.reduceLT,Nat.reduceLeDiff,qah,h0',hdT,hdX,hdO,hdI]
end
theorem qdL:∀ ks:List CTree,ks.length≤qaB ks
 | []=>by rw[qaB];simp
 | k::ks=>by rw[qaB,List.length_cons];have:=qdp k;have:=qdL ks;omega
section
variable {L:Lib} (hL:Plain L)
include hL
theorem qsL (h183:L.fns 183=some fn183) (op n:Int) (binds xk:List Int) (kids:List CNode) (alts:List CAlt) (ih:∀ k∈kids,qmu L k):qmu L (.mk op n binds xk kids alts):=by
 have hp:=hL.pure
 intro outs hsz
 rw[qhB,qaP] at hsz
 have hs:L.summ 183=none:=hL.summ 183 (by rw[h183];exact fun hx=>by cases hx)
 refine qaD hs h183 ?_
 have hkl:kids.length<2 ^ 30:=by have:=qdL (kids.map qaE);rw[List.length_map] at this;omega
 have hT:(outs++qaK (kids.map qaE) outs.length).length=outs.length+qaB (kids.map qaE):=by rw[List.length_append,qdR]
 rw[qhB]
 have hres:outs.length+qaP (.mk op n binds (kids.map qaE) alts)-1=(outs++qaK (kids.map qaE) outs.length).length:=by rw[qaP,hT];omega
 rw[hres,qcq,← List.append_assoc]
 have hdT:=qfO kids
 have hdA:=qan alts
 have hdX:=qah xk
 have hdI:=qah (qaM (kids.map qaE) outs.length)
 have hrl:=qdV (kids.map qaE) outs.length
 rw[List.length_map] at hrl
 rw[qdJ]
 have hpos2:∀ x:CExpr,0<((outs++qaK (kids.map qaE) outs.length)++[x]).length:=fun x=>by rw[List.length_append];simp
 rw[qjW (hpos2 _)]
 have hlt:(outs++qaK (kids.map qaE) outs.length).length+1≤1073741824:=by rw[hT];omega
 have hw:IntKind.i64.wrap ((((outs++qaK (kids.map qaE) outs.length).length+1:Nat):Int)-1)=(((outs++qaK (kids.map qaE) outs.length).length:Nat):Int):=by rw[qbX (by omega) (by omega)];omega
 have hdO0:=qaz outs
 rcases Nat.eq_zero_or_pos outs.length with hz | hz
 ·have:outs=[]:=List.length_eq_zero_iff.1 hz
  subst this
  have hl0:=qva hL op n binds kids alts (by omega) hkl ih
  unfold nB nB' at hl0
  have e4:nHB op n binds alts [] [] 0=[.box [.list [] (some none)],.box [.int .i64 op,.int .i64 n,.list (binds.map qau) none,.list [] (some none),.list (alts.map qaq) none]]:=rfl
  rw[e4] at hl0
  simp only[Int.natCast_zero] at hl0
  rw[qsJ]
  rw[List.nil_append,List.length_nil] at *
  by_cases hm:kids.length=0
  ·have:kids=[]:=List.length_eq_zero_iff.1 hm
   subst this
   have e5:qaK (([]:List CNode).map qaE) 0=[]:=by rw[List.map_nil,qaK]
   have e6:qaM (([]:List CNode).map qaE) 0=[]:=rfl
   have hw1:IntKind.i64.wrap 0=0:=rfl
   simp only[e5,e6] at hl0 hw hlt ⊢
   have e7:nHB op n binds alts [] [] ([]:List CNode).length=[.box [.list [] (some none)],.box [.int .i64 op,.int .i64 n,.list (binds.map qau) none,.list [] (some none),.list (alts.map qaq) none]]:=rfl
   rw[e7] at hl0
   simp only[List.length_nil,Int.natCast_zero,List.map_nil] at hl0
   unfold fn183
   simp -implicitDefEqProofs only[ev_,aOp,opd,qaa,qas,qay,qbb,qax,qab,qaf,qag,qaN,qaQ,qai,leaf,qap,qao,qac,qae,qaj,gcE,qav,ren,renC,qa1,qba,qaA,qbi,↓reduceIte,reduceCtorEq,Nat.reduceEqDiff,Nat.reduceAdd,Nat.reduceLT,Nat.reduceLeDiff,qaT,qah,hl0,hdA,hdX,hw,hw1,Int.natCast_zero,Int.natCast_one,Int.reduceSub,qal L hp,hp]
  ·have e7:nHB op n binds alts (qaK (kids.map qaE) 0) (qaM (kids.map qaE) 0) kids.length=[.box [.list ((qaK (kids.map qaE) 0).map qam) (some (some 2))],.box [.int .i64 op,.int .i64 n,.list (binds.map qau) none,.list ((qaM (kids.map qaE) 0).map qau) (some (some 3)),.list (alts.map qaq) none],.tail (qaK (kids.map qaE) 0).length 5,.tail kids.length 1]:=if_neg hm
   rw[e7] at hl0
   generalize qaK (kids.map qaE) 0=ou at *
   have hdO:=qaz ou
   have hallO:=qjc ou
   generalize qaM (kids.map qaE) 0=ids at *
   unfold fn183
   simp -implicitDefEqProofs only[ev_,aOp,opd,qaa,qas,qay,qbb,qax,qab,qaf,qag,qaN,qaQ,qai,leaf,qap,qao,qac,qae,qaj,gcE,qav,ren,renC,qa1,qba,qaA,qbi,↓reduceIte,reduceCtorEq,Nat.reduceEqDiff,Nat.reduceAdd,Nat.reduceLT,Nat.reduceLeDiff,qaT,qah,hl0,hdA,hdT,hdX,hdI,hdO,hallO,hlt,hw,qal L hp,hp]
 ·have hl0:=qu9 hL op n binds kids alts outs hz (by omega) hkl ih
  unfold nA nA' at hl0
  simp only[List.map_nil,qc4,qc9,List.append_nil,Int.natCast_zero] at hl0
  rw[qjW hz]
  generalize outs++qaK (kids.map qaE) outs.length=ou at *
  have hdO:=qaz ou
  have hallO:=qjc ou
  generalize qaM (kids.map qaE) outs.length=ids at *
  rcases qhx 3 1 kids.length with ⟨k1,k2⟩ | ⟨k1,k2⟩<;>rw[k1,k2] at hl0<;>unfold fn183 <;>
   simp -implicitDefEqProofs only[ev_,aOp,opd,qaa,qas,qay,qbb,qax,qab,qaf,qag,qaN,qaQ,qai,leaf,qap,qao,qac,qae,qaj,gcE,qav,ren,renC,qa1,qba,qaA,qbi,↓reduceIte,reduceCtorEq,Nat.reduceEqDiff,Nat.reduceAdd,Nat.reduceLT,Nat.reduceLeDiff,qaT,qah,hl0,hdA,hdT,hdX,hdI,hdO0,hdO,hallO,hlt,hw,qal L hp,hp]
theorem qvb (h183:L.fns 183=some fn183) (t:CNode):qmu L t:=by
 induction t using CNode.ind with
 | h op n binds xk kids alts ih=>exact qsL hL h183 op n binds xk kids alts ih
theorem qq4 (h183:L.fns 183=some fn183) (h154:L.fns 154=some fn154) (t:CNode) (hsz:qaP (qaE t)<2 ^ 30) (h:Heap) :
  pcall L 154 [qbB t] h=some (.val (.list ((qaU (qaE t)).map qam) none),h):=by
 have hp:=hL.pure
 have hw:=qvb hL h183 t [] (by simpa using hsz)
 refine qaY hL h154 (by rw[qaV];exact qaz _) ?_ h
 have hpos:0<([]++qcq (qaE t) ([]:List CExpr).length).length:=by rw[List.nil_append,qde];exact qdp _
 rw[qjW hpos,qsJ] at hw
 unfold qaU
 rw[List.nil_append,List.length_nil] at hw
 generalize qcq (qaE t) 0=ou at *
 have hdO:=qaz ou
 obtain⟨tc,htc,hdt⟩:=qfk t
 rw[htc] at hw ⊢
 unfold fn154
 simp -implicitDefEqProofs only[ev_,aOp,opd,qaa,qag,qao,qac,qae,qaj,qav,ren,renC,qa1,qba,↓reduceIte,reduceCtorEq,Nat.reduceEqDiff,Nat.reduceLT,qak,hw,hdO,hdt,qal L hp,hp]
end
def nN (op n:Int) (kids:List CNode):CNode:=.mk op n [] [] kids []
theorem qoc (t:CNode):acells (qbB t)=[qbB t]:=by cases t;rw[qdJ];rfl
section
variable {L:Lib} (hC:CLib2 L)
include hC
theorem qzE (op n:Int) (kids:List CNode) (h:Heap):pcall L 177 [.int .i64 op,.int .i64 n,.list (kids.map qbB) none] h=some (.val (qbB (nN op n kids)),h):=by
 have hL:=hC.plain
 have hp:=hL.pure
 refine qaY hL hC.f177 (qg5 _) ?_ h
 have hd:=qfO kids
 unfold nN
 rw[qdJ]
 unfold fn177
 simp -implicitDefEqProofs only[ev_,aOp,opd,qaa,qbS,qcd,leaf,qap,qao,qac,qae,qaj,↓reduceIte,reduceCtorEq,Nat.reduceEqDiff,Nat.reduceAdd,Nat.reduceLeDiff,frz,frzC,qjJ,qak,hd,qbI]
theorem qu8 (t:CNode) (hsz:qaP (qaE t)<2 ^ 30) (h:Heap):pcall L 154 [qbB t] h=some (.val (.list ((qaU (qaE t)).map qam) none),h):=qq4 hC.plain hC.f183 hC.f154 t hsz h
end
theorem qew {op n:Int} {bl kl:Nat} {as:List CAlt} (h:qbd op n bl kl as=true):(op=2→kl=1)∧((op=8∨op=3∨op=7∨op=10∨op=11)→0<kl)∧(op=8→¬ (n=7∨n=9)→1<kl):=by
 by_cases ho:op=7∨op=13
 ·have:=(qdK h).1 ho
  exact⟨fun h2=>by omega,fun _=>by omega,fun h8=>by omega⟩
 ·unfold qbd at h
  rw[if_neg ho] at h
  split at h
  ·cases h
  ·rename_i r hr
   unfold qbN at h
   simp only[Bool.and_eq_true,beq_iff_eq] at h
   have hk:=h.1.1.1
   unfold kbu at hr
   refine⟨fun h2=>?_,fun hh=>?_,fun h8 hn=>?_⟩
   ·subst h2
    simp at hr
    rw[← hr] at hk
    simp at hk
    omega
   ·rcases hh with rfl | rfl | rfl | rfl | rfl
    ·simp only[show ¬((8:Int)=0∨(8:Int)=1∨(8:Int)=17) by omega,show ¬(8:Int)=2 by omega,show ¬(8:Int)=3 by omega,show ¬(8:Int)=4 by omega,show ¬(8:Int)=5 by omega,show ¬(8:Int)=6 by omega,if_true,if_false] at hr
     split at hr
     ·injection hr with hr
      rw[← hr] at hk
      dsimp only at hk
      unfold qje at hk
      split at hk
      ·omega
      ·split at hk<;>omega
     ·cases hr
    ·simp at hr
     rw[← hr] at hk
     dsimp only at hk
     omega
    ·omega
    ·simp at hr
     rw[← hr] at hk
     simp at hk
     omega
    ·simp at hr
     rw[← hr] at hk
     simp at hk
     omega
   ·subst h8
    simp only[show ¬((8:Int)=0∨(8:Int)=1∨(8:Int)=17) by omega,show ¬(8:Int)=2 by omega,show ¬(8:Int)=3 by omega,show ¬(8:Int)=4 by omega,show ¬(8:Int)=5 by omega,show ¬(8:Int)=6 by omega,if_true,if_false] at hr
    split at hr
    ·injection hr with hr
     rw[← hr] at hk
     dsimp only at hk
     unfold qje at hk
     rw[if_neg hn] at hk
     split at hk<;>omega
    ·cases hr
section
end
end Go.Abs
