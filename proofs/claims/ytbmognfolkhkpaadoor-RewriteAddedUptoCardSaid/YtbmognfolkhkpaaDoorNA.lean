/-
  PARTS OF A PROOF, joined: an abstract machine for quiet code, its evaluation, and what the seat's functions answer on it. Conditions: none.
-/
import Derived.Test.YtbmognfolkhkpaaDoorW
set_option linter.unusedVariables false
set_option linter.unusedSimpArgs false
set_option maxRecDepth 100000
set_option maxHeartbeats 4000000
namespace Go.Abs
inductive CNode where
 | mk (op n:Int) (binds xk:List Int) (kids:List CNode) (alts:List CAlt)
def qcl:CNode→AVal
 | .mk op n binds xk kids alts=>.vptr [.int .i64 op,.int .i64 n,.list (binds.map qaY) none,.list (xk.map qaY) none,.list (alts.map qaU) none,.list (kids.attach.map fun k=>qcl k.1) none] 0
 termination_by t=>SizeOf.sizeOf t
 decreasing_by
  have:=List.sizeOf_lt_of_mem k.2
  simp only[CNode.mk.sizeOf_spec]
  omega
def qa9:CNode→CTree
 | .mk op n binds xk kids alts=>.mk op n binds (kids.attach.map fun k=>qa9 k.1) alts
 termination_by t=>SizeOf.sizeOf t
 decreasing_by
  have:=List.sizeOf_lt_of_mem k.2
  simp only[CNode.mk.sizeOf_spec]
  omega
theorem qdY (op n:Int) (binds xk:List Int) (kids:List CNode) (alts:List CAlt):qcl (.mk op n binds xk kids alts)=.vptr [.int .i64 op,.int .i64 n,.list (binds.map qaY) none,.list (xk.map qaY) none,.list (alts.map qaU) none,.list (kids.map qcl) none] 0:=by
 rw[qcl]
 simp
theorem qfM (op n:Int) (binds xk:List Int) (kids:List CNode) (alts:List CAlt):qa9 (.mk op n binds xk kids alts)=.mk op n binds (kids.map qa9) alts:=by
 rw[qa9]
 simp
theorem CNode.ind {P:CNode→Prop} (h:∀ op n binds xk kids alts,(∀ k∈kids,P k)→P (.mk op n binds xk kids alts)):∀ t,P t
 | .mk op n binds xk kids alts=>h op n binds xk kids alts fun k hk=>CNode.ind h k
 termination_by t=>SizeOf.sizeOf t
 decreasing_by
  have:=List.sizeOf_lt_of_mem hk
  simp only[CNode.mk.sizeOf_spec]
  omega
theorem qe2 (t:CNode):qbd (qcl t)=true:=by
 induction t using CNode.ind with
 | h op n binds xk kids alts ih =>
   rw[qdY]
   have:qa4 (kids.map qcl)=true:=by
    clear op n binds xk alts
    induction kids with
    | nil=>rfl
    | cons k ks ih'=>rw[List.map_cons,qa4,ih k (by simp),ih' fun x hx=>ih x (by simp[hx])];rfl
   simp only[qbd,qa4,qay,qaO,this,Bool.and_self]
theorem qfu (l:List CNode):qa4 (l.map qcl)=true:=qe5 _ qe2 l
theorem qd4 (t:CNode):∃ tc,qcl t=.vptr tc 0∧qa4 tc=true:=by
 have h:=qe2 t
 cases t
 rw[qdY] at h ⊢
 exact⟨_,rfl,h⟩
def mh (outs:List CExpr):Heap:=[.box [.list (outs.map qaP) (qfF 1 outs.length)]]++qdF 5 outs.length
theorem qsN:mh []=[.box [.list [] (some none)]]:=rfl
theorem qk1 {outs:List CExpr} (h:0<outs.length):mh outs=[.box [.list (outs.map qaP) (some (some 1))],.tail outs.length 5]:=by
 unfold mh
 rw[qeB h,qdZ h]
 rfl
def qnp (L:Lib) (t:CNode):Prop:=∀ outs:List CExpr,outs.length+qbv (qa9 t)<2 ^ 30→call L 183 [qcl t,.ptr (some (0,0))] (mh outs)=some (.val (.int .i64 ((outs.length+qbv (qa9 t)-1:Nat):Int)),mh (outs++qdH (qa9 t) outs.length))
def nA (op n:Int) (binds:List Int) (kids:List CNode) (alts:List CAlt) (outs:List CExpr) (ids:List Int) (j:Nat):St :=
 ⟨kt [1,5,16,17,18] [.ptr (some (0,0)),.ptr (some (2,0)),.list (kids.map qcl) none,.int .i64 kids.length,.int .i64 j],
  [.box [.list (outs.map qaP) (some (some 1))],.tail outs.length 5,.box [.int .i64 op,.int .i64 n,.list (binds.map qaY) none,.list (ids.map qaY) (qfF 3 j),.list (alts.map qaU) none]]++qdF 1 j⟩
def nA' (op n:Int) (binds:List Int) (alts:List CAlt) (outs:List CExpr) (ids:List Int) (j:Nat):St :=
 ⟨kt [1,5] [.ptr (some (0,0)),.ptr (some (2,0))],
  [.box [.list (outs.map qaP) (some (some 1))],.tail outs.length 5,.box [.int .i64 op,.int .i64 n,.list (binds.map qaY) none,.list (ids.map qaY) (qfF 3 j),.list (alts.map qaU) none]]++qdF 1 j⟩
section
variable {L:Lib} (hL:Plain L)
include hL
theorem qu0 (op n:Int) (binds:List Int) (kids:List CNode) (alts:List CAlt) (outs:List CExpr) (h0:0<outs.length) (hsz:outs.length+qa6 (kids.map qa9)<2 ^ 30) (hkl:kids.length<2 ^ 30) (ih:∀ k∈kids,qnp L k) :
  qb7 L.pure (call L) 3 [1,5,16,17,18] [1,5] 0 qd5 (nA op n binds kids alts outs [] 0)=some (.normal,nA' op n binds alts (outs++qbs (kids.map qa9) outs.length) (qbt (kids.map qa9) outs.length) kids.length):=by
 have hp:=hL.pure
 have hdT:=qfu kids
 have hdX:=qaO alts
 have hC:=qh1 (pure:=L.pure) (call:=call L) (b:=3) (keep:=[1,5,16,17,18]) (fk:=[1,5]) (id:=0) (body:=qd5)
  (fun j=>nA op n binds kids alts (outs++qbs ((kids.map qa9).take j) outs.length) (qbt ((kids.map qa9).take j) outs.length) j) kids.length (T:=nA' op n binds alts (outs++qbs (kids.map qa9) outs.length) (qbt (kids.map qa9) outs.length) kids.length) ?_ ?_
 ·have e0:qbs ((kids.map qa9).take 0) outs.length=[]:=by rw[List.take_zero,qbs]
  have e1:qbt ((kids.map qa9).take 0) outs.length=[]:=by rw[List.take_zero,qbt]
  simp only[e0,e1,List.append_nil] at hC
  exact hC
 ·intro j hj
  obtain⟨h1,h2,h3⟩:=qbz qcl kids hkl j hj
  have hw:=ih kids[j] (List.getElem_mem hj) (outs++qbs ((kids.map qa9).take j) outs.length)
  have hlen:(outs++qbs ((kids.map qa9).take j) outs.length).length=outs.length+qa6 ((kids.map qa9).take j):=by rw[List.length_append,qe6]
  have hj2:j<(kids.map qa9).length:=by simpa using hj
  have hle:=qgW (kids.map qa9) (j+1)
  rw[qlo (kids.map qa9) j hj2,List.getElem_map] at hle
  have hrl:(qbt ((kids.map qa9).take j) outs.length).length=j:=by rw[qfa];simp;omega
  have hjj:j+1≤1073741824:=by omega
  rw[List.take_succ_eq_append_getElem hj2,List.getElem_map,qhZ,qgR,← List.append_assoc,← hlen]
  have hw:=hw (by rw[hlen];omega)
  have hpos:0<(outs++qbs ((kids.map qa9).take j) outs.length).length:=by rw[hlen];omega
  generalize outs++qbs ((kids.map qa9).take j) outs.length=ou at *
  generalize qbt ((kids.map qa9).take j) outs.length=ids at *
  generalize kids[j]=kid at *
  have hpos2:0<(ou++qdH (qa9 kid) ou.length).length:=by rw[List.length_append];omega
  rw[qk1 hpos,qk1 hpos2] at hw
  have hdO:=qbg ou
  generalize ou++qdH (qa9 kid) ou.length=ou2 at *
  have hdO2:=qbg ou2
  have hall:=qdM ids
  have hdI:=qay ids
  obtain⟨tc,htc,hdt⟩:=qd4 kid
  rw[htc] at hw
  rcases Nat.eq_zero_or_pos j with hz | hz
  ·have:ids=[]:=List.length_eq_zero_iff.1 (by omega)
   subst this
   have o1:qfF 3 j=some none:=by rw[hz];rfl
   have o2:qdF 1 j=[]:=by rw[hz];rfl
   have o3:j+1=1:=by omega
   unfold qd5 nA
   simp -implicitDefEqProofs only[qam,qad,qaJ,qae,qab,qal,qac,qah,aOp,opd,qai,qa3,qaB,qag,qaZ,qbb,qba,qas,qaj,qaw,qaA,qby,qaG,leaf,qaM,qbn,qct,qaV,qa0,qaf,qaE,qat,qaD,qaF,qa5,ren,renC,qbj,qcN,qbU,qcd,qbi,qd9,qa2,qaR,qaL,qa8,qbR,qbx,qdo,qbD,qaa,qbG,qaq,qaQ,qbc,qav,qao,Option.getD_some,List.map_cons,List.map_nil,List.flatMap_cons,List.flatMap_nil,List.length_cons,List.length_nil,List.cons_append,List.nil_append,List.append_nil,List.getElem?_cons_zero,List.getElem?_cons_succ,List.set_cons_zero,List.set_cons_succ,List.take_succ_cons,List.take_zero,List.drop_succ_cons,List.drop_zero,List.take_nil,List.all_cons,List.all_nil,List.mem_cons,List.not_mem_nil,↓reduceIte,Bool.and_true,Bool.and_false,Bool.false_eq_true,and_true,and_false,or_true,or_false,not_true_eq_false,not_false_eq_true,decide_true,decide_false,and_self,Nat.le_refl,Nat.zero_le,reduceCtorEq,Nat.zero_add,Nat.reduceEqDiff,Nat.reduceAdd,Nat.reduceSub,Nat.reduceLT,Nat.reduceLeDiff,Int.toNat_natCast,Int.natCast_nonneg,List.cons_ne_nil,qaz,qb8,qb4,qaC,qcz,qaK,forall_const,forall_eq_or_imp,forall_eq,qa1,Int.cast_ofNat_Int,qec,qc2,qe3,qc3,qdu,qft,qc1,qgN,qeb,qcL,qfG,qfc,qb1,qay,h1,h2,h3,hw,hdT,hdX,hdO,hdO2,htc,hdt,o1,o2,o3,qaN L hp,hp]
  ·have o1:=qeB (b:=3) hz
   have o2:=qdZ (sz:=1) hz
   unfold qd5 nA
   simp -implicitDefEqProofs only[qam,qad,qaJ,qae,qab,qal,qac,qah,aOp,opd,qai,qa3,qaB,qag,qaZ,qbb,qba,qas,qaj,qaw,qaA,qby,qaG,leaf,qaM,qbn,qct,qaV,qa0,qaf,qaE,qat,qaD,qaF,qa5,ren,renC,qbj,qcN,qbU,qcd,qbi,qd9,qa2,qaR,qaL,qa8,qbR,qbx,qdo,qbD,qaa,qbG,qaq,qaQ,qbc,qav,qao,qdb,Option.getD_some,List.map_cons,List.map_nil,List.flatMap_cons,List.flatMap_nil,List.length_cons,List.length_nil,List.length_map,List.cons_append,List.nil_append,List.append_nil,List.getElem?_cons_zero,List.getElem?_cons_succ,List.set_cons_zero,List.set_cons_succ,List.take_succ_cons,List.take_zero,List.drop_succ_cons,List.drop_zero,List.take_nil,List.all_cons,List.all_nil,List.mem_cons,List.not_mem_nil,↓reduceIte,Bool.and_true,Bool.and_false,Bool.false_eq_true,and_true,and_false,or_true,or_false,not_true_eq_false,not_false_eq_true,decide_true,decide_false,and_self,Nat.le_refl,Nat.zero_le,reduceCtorEq,Nat.zero_add,Nat.reduceEqDiff,Nat.reduceAdd,Nat.reduceSub,Nat.reduceLT,Nat.reduceLeDiff,Int.toNat_natCast,Int.natCast_nonneg,List.cons_ne_nil,qaz,qb8,qb4,qaC,qcz,qaK,forall_const,forall_eq_or_imp,forall_eq,List.map_append,qa1,qec,qc2,qe3,qc3,qdu,qft,qc1,qgN,qeb,qcL,qfG,qfc,qb1,qay,h1,h2,h3,hw,hdT,hdX,hdO,hdO2,htc,hdt,hall,hdI,hrl,hjj,o1,o2,qaN L hp,hp]
 ·have h0':=qbA kids.length
  have ht:(kids.map qa9).take kids.length=kids.map qa9:=List.take_of_length_le (by simp)
  rw[ht]
  generalize outs++qbs (kids.map qa9) outs.length=ou
  have hdO:=qbg ou
  have hdI:=qay (qbt (kids.map qa9) outs.length)
  generalize qbt (kids.map qa9) outs.length=ids at *
  unfold qd5 nA nA'
  rcases qiN 3 1 kids.length with ⟨o1,o2⟩ | ⟨o1,o2⟩<;>simp -implicitDefEqProofs only[qad,qae,qab,qbk,qac,qah,aOp,opd,qai,qaB,qag,qbb,qba,qaj,gcE,qa0,qaf,qaE,qat,qaD,qaF,qa5,ren,renC,qbj,qcN,qbU,qcd,qbi,qd9,qaa,qbV,qbG,qaq,qbc,Option.getD_some,List.map_cons,List.map_nil,List.flatMap_cons,List.flatMap_nil,List.length_cons,List.length_nil,List.cons_append,List.nil_append,List.append_nil,List.getElem?_cons_zero,List.getElem?_cons_succ,List.take_succ_cons,List.take_zero,List.take_nil,List.not_mem_nil,↓reduceIte,Bool.false_eq_true,and_true,not_false_eq_true,decide_false,and_self,Nat.le_refl,Nat.zero_add,Nat.reduceEqDiff,Nat.reduceAdd,Nat.reduceLT,Nat.reduceLeDiff,qaz,qa1,qay,h0',hdT,hdX,hdO,hdI,o1,o2]
def nHB (op n:Int) (binds:List Int) (alts:List CAlt) (outs:List CExpr) (ids:List Int) (j:Nat):Heap :=
 if j=0 then [.box [.list [] (some none)],.box [.int .i64 op,.int .i64 n,.list (binds.map qaY) none,.list [] (some none),.list (alts.map qaU) none]]
 else [.box [.list (outs.map qaP) (some (some 2))],.box [.int .i64 op,.int .i64 n,.list (binds.map qaY) none,.list (ids.map qaY) (some (some 3)),.list (alts.map qaU) none],.tail outs.length 5,.tail j 1]
def nB (op n:Int) (binds:List Int) (kids:List CNode) (alts:List CAlt) (outs:List CExpr) (ids:List Int) (j:Nat):St :=
 ⟨kt [1,5,16,17,18] [.ptr (some (0,0)),.ptr (some (1,0)),.list (kids.map qcl) none,.int .i64 kids.length,.int .i64 j],nHB op n binds alts outs ids j⟩
def nB' (op n:Int) (binds:List Int) (alts:List CAlt) (outs:List CExpr) (ids:List Int) (j:Nat):St :=
 ⟨kt [1,5] [.ptr (some (0,0)),.ptr (some (1,0))],nHB op n binds alts outs ids j⟩
theorem qu1 (op n:Int) (binds:List Int) (kids:List CNode) (alts:List CAlt) (hsz:qa6 (kids.map qa9)<2 ^ 30) (hkl:kids.length<2 ^ 30) (ih:∀ k∈kids,qnp L k) :
  qb7 L.pure (call L) 2 [1,5,16,17,18] [1,5] 0 qd5 (nB op n binds kids alts [] [] 0)=some (.normal,nB' op n binds alts (qbs (kids.map qa9) 0) (qbt (kids.map qa9) 0) kids.length):=by
 have hp:=hL.pure
 have hdT:=qfu kids
 have hdX:=qaO alts
 have hC:=qh1 (pure:=L.pure) (call:=call L) (b:=2) (keep:=[1,5,16,17,18]) (fk:=[1,5]) (id:=0) (body:=qd5)
  (fun j=>nB op n binds kids alts (qbs ((kids.map qa9).take j) 0) (qbt ((kids.map qa9).take j) 0) j) kids.length (T:=nB' op n binds alts (qbs (kids.map qa9) 0) (qbt (kids.map qa9) 0) kids.length) ?_ ?_
 ·have e0:qbs ((kids.map qa9).take 0) 0=[]:=by rw[List.take_zero,qbs]
  have e1:qbt ((kids.map qa9).take 0) 0=[]:=by rw[List.take_zero,qbt]
  simp only[e0,e1] at hC
  exact hC
 ·intro j hj
  obtain⟨h1,h2,h3⟩:=qbz qcl kids hkl j hj
  have hw:=ih kids[j] (List.getElem_mem hj) (qbs ((kids.map qa9).take j) 0)
  have hlen:(qbs ((kids.map qa9).take j) 0).length=0+qa6 ((kids.map qa9).take j):=by rw[qe6];omega
  have hj2:j<(kids.map qa9).length:=by simpa using hj
  have hle:=qgW (kids.map qa9) (j+1)
  rw[qlo (kids.map qa9) j hj2,List.getElem_map] at hle
  have hrl:(qbt ((kids.map qa9).take j) 0).length=j:=by rw[qfa];simp;omega
  have hjj:j+1≤1073741824:=by omega
  rw[List.take_succ_eq_append_getElem hj2,List.getElem_map,qhZ,qgR,← hlen]
  have hw:=hw (by rw[hlen];omega)
  have hkp:0<qbv (qa9 kids[j]):=qeE _
  have hz0:j=0→qbs ((kids.map qa9).take j) 0=[]:=by intro h;rw[h,List.take_zero,qbs]
  have hzp:0<j→0<(qbs ((kids.map qa9).take j) 0).length:=by
   intro h
   rw[hlen]
   cases kids with
   | nil=>simp at hj
   | cons x xs =>
     cases j with
     | zero=>omega
     | succ j=>rw[List.map_cons,List.take_succ_cons,qa6];have:=qeE (qa9 x);omega
  have hll:(qdH (qa9 kids[j]) (qbs ((kids.map qa9).take j) 0).length).length=qbv (qa9 kids[j]):=qdz _ _
  generalize qbs ((kids.map qa9).take j) 0=ou at *
  generalize qbt ((kids.map qa9).take j) 0=ids at *
  generalize kids[j]=kid at *
  have hpos2:0<(ou++qdH (qa9 kid) ou.length).length:=by rw[List.length_append];omega
  rw[qk1 hpos2] at hw
  have hdO:=qbg ou
  have hall:=qdM ids
  have hdI:=qay ids
  obtain⟨tc,htc,hdt⟩:=qd4 kid
  rw[htc] at hw
  have e3:∀ a b,nHB op n binds alts a b (j+1)=[.box [.list (a.map qaP) (some (some 2))],.box [.int .i64 op,.int .i64 n,.list (binds.map qaY) none,.list (b.map qaY) (some (some 3)),.list (alts.map qaU) none],.tail a.length 5,.tail (j+1) 1]:=fun a b=>if_neg (by omega)
  rcases Nat.eq_zero_or_pos j with hz | hz
  ·have:ids=[]:=List.length_eq_zero_iff.1 (by omega)
   subst this
   have:=hz0 hz
   subst this
   rw[qsN] at hw
   have o3:j+1=1:=by omega
   have e4:nHB op n binds alts [] [] j=[.box [.list [] (some none)],.box [.int .i64 op,.int .i64 n,.list (binds.map qaY) none,.list [] (some none),.list (alts.map qaU) none]]:=if_pos hz
   generalize []++qdH (qa9 kid) ([]:List CExpr).length=ou2 at *
   have hdO2:=qbg ou2
   unfold qd5 nB
   rw[e3,e4]
   simp -implicitDefEqProofs only[qam,qad,qaJ,qae,qab,qal,qac,qah,aOp,opd,qai,qa3,qaB,qag,qaZ,qbb,qba,qas,qaj,qaw,qaA,qby,qaG,leaf,qaM,qbn,qct,qaV,qa0,qaf,qaE,qat,qaD,qaF,qa5,ren,renC,qbj,qcN,qbU,qcd,qbi,qa2,qaR,qaL,qa8,qbR,qbx,qdo,qbD,qaa,qbV,qbG,qaq,qaQ,qbc,qav,qao,Option.map_some,Option.getD_some,List.map_cons,List.map_nil,List.flatMap_cons,List.flatMap_nil,List.length_cons,List.length_nil,List.cons_append,List.nil_append,List.append_nil,List.getElem?_cons_zero,List.getElem?_cons_succ,List.set_cons_zero,List.set_cons_succ,List.take_succ_cons,List.take_zero,List.drop_succ_cons,List.drop_zero,List.all_cons,List.all_nil,List.mem_cons,List.not_mem_nil,↓reduceIte,Bool.and_true,Bool.and_false,Bool.false_eq_true,and_true,or_false,not_false_eq_true,decide_true,decide_false,and_self,Nat.le_refl,reduceCtorEq,Nat.add_zero,Nat.zero_add,Nat.reduceEqDiff,Nat.reduceAdd,Nat.reduceSub,Nat.reduceLT,Nat.reduceLeDiff,Int.toNat_natCast,Int.natCast_nonneg,List.cons_ne_nil,qaz,qb8,qb4,qaC,qcz,qaK,forall_const,forall_eq_or_imp,forall_eq,qa1,Int.cast_ofNat_Int,qec,qc2,qe3,qc3,qdu,qft,qc1,qgN,qeb,qcL,qb1,qay,h1,h2,h3,hw,hdT,hdX,hdO2,htc,hdt,o3,qaN L hp,hp]
  ·rw[qk1 (hzp hz)] at hw
   have e4:nHB op n binds alts ou ids j=[.box [.list (ou.map qaP) (some (some 2))],.box [.int .i64 op,.int .i64 n,.list (binds.map qaY) none,.list (ids.map qaY) (some (some 3)),.list (alts.map qaU) none],.tail ou.length 5,.tail j 1]:=if_neg (by omega)
   generalize ou++qdH (qa9 kid) ou.length=ou2 at *
   have hdO2:=qbg ou2
   unfold qd5 nB
   rw[e3,e4]
   simp -implicitDefEqProofs only[qam,qad,qaJ,qae,qab,qal,qac,qah,aOp,opd,qai,qa3,qaB,qag,qaZ,qbb,qba,qas,qaj,qaw,qaA,qby,qaG,leaf,qaM,qbn,qct,qaV,qa0,qaf,qaE,qat,qaD,qaF,qa5,ren,renC,qbj,qcN,qbU,qcd,qbi,qd9,qa2,qaR,qaL,qa8,qbR,qbx,qdo,qbD,qaa,qbG,qaq,qaQ,qbc,qav,qao,qdb,Option.getD_some,List.map_cons,List.map_nil,List.flatMap_cons,List.flatMap_nil,List.length_cons,List.length_nil,List.length_map,List.cons_append,List.nil_append,List.append_nil,List.getElem?_cons_zero,List.getElem?_cons_succ,List.set_cons_zero,List.set_cons_succ,List.take_succ_cons,List.take_zero,List.drop_succ_cons,List.drop_zero,List.take_nil,List.all_cons,List.all_nil,List.mem_cons,List.not_mem_nil,↓reduceIte,Bool.and_true,Bool.and_false,Bool.false_eq_true,and_true,and_false,or_true,or_false,not_true_eq_false,not_false_eq_true,decide_true,decide_false,and_self,Nat.le_refl,Nat.zero_le,reduceCtorEq,Nat.zero_add,Nat.reduceEqDiff,Nat.reduceAdd,Nat.reduceSub,Nat.reduceLT,Nat.reduceLeDiff,Int.toNat_natCast,Int.natCast_nonneg,List.cons_ne_nil,qaz,qb8,qb4,qaC,qcz,qaK,forall_const,forall_eq_or_imp,forall_eq,List.map_append,qa1,qec,qc2,qe3,qc3,qdu,qft,qc1,qgN,qeb,qcL,qb1,qay,h1,h2,h3,hw,hdT,hdX,hdO,hdO2,htc,hdt,hall,hdI,hrl,hjj,qaN L hp,hp]
 ·have h0':=qbA kids.length
  have ht:(kids.map qa9).take kids.length=kids.map qa9:=List.take_of_length_le (by simp)
  rw[ht]
  have hdO:=qbg (qbs (kids.map qa9) 0)
  have hdI:=qay (qbt (kids.map qa9) 0)
  generalize qbs (kids.map qa9) 0=ou at *
  generalize qbt (kids.map qa9) 0=ids at *
  unfold qd5 nB nB' nHB
  by_cases hz:kids.length=0
  ·rw[if_pos hz]
   simp -implicitDefEqProofs only[qad,qae,qab,qbk,qac,qah,aOp,opd,qai,qaB,qag,qbb,qba,qaj,gcE,qa0,qaf,qaE,qat,qaD,qaF,qa5,ren,renC,qbj,qbU,qcd,qbi,qaa,qbV,qaq,qbc,qav,List.map_cons,List.map_nil,List.flatMap_cons,List.flatMap_nil,List.length_cons,List.length_nil,List.cons_append,List.nil_append,List.append_nil,List.take_succ_cons,List.take_nil,List.not_mem_nil,↓reduceIte,Bool.false_eq_true,and_true,not_false_eq_true,decide_false,Nat.le_refl,Nat.zero_add,Nat.reduceEqDiff,Nat.reduceAdd,Nat.reduceLT,Nat.reduceLeDiff,qaz,qa1,qay,h0',hdT,hdX]
  ·rw[if_neg hz]
   simp -implicitDefEqProofs only[qad,qae,qab,qbk,qac,qah,aOp,opd,qai,qaB,qag,qbb,qba,qaj,gcE,qa0,qaf,qaE,qat,qaD,qaF,qa5,ren,renC,qbj,qcN,qbU,qcd,qbi,qaa,qbG,qaq,qbc,Option.getD_some,List.map_cons,List.map_nil,List.flatMap_cons,List.flatMap_nil,List.length_cons,List.length_nil,List.cons_append,List.nil_append,List.append_nil,List.getElem?_cons_zero,List.getElem?_cons_succ,List.take_succ_cons,List.take_zero,List.mem_cons,List.not_mem_nil,↓reduceIte,Bool.false_eq_true,and_true,or_false,not_false_eq_true,decide_false,and_self,Nat.le_refl,Nat.zero_add,Nat.reduceEqDiff,Nat.reduceAdd,Nat.reduceLT,Nat.reduceLeDiff,qaz,qa1,qay,h0',hdT,hdX,hdO,hdI]
end
theorem qhy:∀ ks:List CTree,ks.length≤qa6 ks
 | []=>by rw[qa6];simp
 | k::ks=>by rw[qa6,List.length_cons];have:=qeE k;have:=qhy ks;omega
section
variable {L:Lib} (hL:Plain L)
include hL
theorem qsO (h183:L.fns 183=some fn183) (op n:Int) (binds xk:List Int) (kids:List CNode) (alts:List CAlt) (ih:∀ k∈kids,qnp L k):qnp L (.mk op n binds xk kids alts):=by
 have hp:=hL.pure
 intro outs hsz
 rw[qfM,qbv] at hsz
 have hs:L.summ 183=none:=hL.summ 183 (by rw[h183];exact fun hx=>by cases hx)
 refine qbE hs h183 ?_
 have hkl:kids.length<2 ^ 30:=by have:=qhy (kids.map qa9);rw[List.length_map] at this;omega
 have hT:(outs++qbs (kids.map qa9) outs.length).length=outs.length+qa6 (kids.map qa9):=by rw[List.length_append,qe6]
 rw[qfM]
 have hres:outs.length+qbv (.mk op n binds (kids.map qa9) alts)-1=(outs++qbs (kids.map qa9) outs.length).length:=by rw[qbv,hT];omega
 rw[hres,qdH,← List.append_assoc]
 have hdT:=qfu kids
 have hdA:=qaO alts
 have hdX:=qay xk
 have hdI:=qay (qbt (kids.map qa9) outs.length)
 have hrl:=qfa (kids.map qa9) outs.length
 rw[List.length_map] at hrl
 rw[qdY]
 have hpos2:∀ x:CExpr,0<((outs++qbs (kids.map qa9) outs.length)++[x]).length:=fun x=>by rw[List.length_append];simp
 rw[qk1 (hpos2 _)]
 have hlt:(outs++qbs (kids.map qa9) outs.length).length+1≤1073741824:=by rw[hT];omega
 have hw:IntKind.i64.wrap ((((outs++qbs (kids.map qa9) outs.length).length+1:Nat):Int)-1)=(((outs++qbs (kids.map qa9) outs.length).length:Nat):Int):=by rw[qc5 (by omega) (by omega)];omega
 have hdO0:=qbg outs
 rcases Nat.eq_zero_or_pos outs.length with hz | hz
 ·have:outs=[]:=List.length_eq_zero_iff.1 hz
  subst this
  have hl0:=qu1 hL op n binds kids alts (by omega) hkl ih
  unfold nB nB' at hl0
  have e4:nHB op n binds alts [] [] 0=[.box [.list [] (some none)],.box [.int .i64 op,.int .i64 n,.list (binds.map qaY) none,.list [] (some none),.list (alts.map qaU) none]]:=rfl
  rw[e4] at hl0
  simp only[Int.natCast_zero] at hl0
  rw[qsN]
  rw[List.nil_append,List.length_nil] at *
  by_cases hm:kids.length=0
  ·have:kids=[]:=List.length_eq_zero_iff.1 hm
   subst this
   have e5:qbs (([]:List CNode).map qa9) 0=[]:=by rw[List.map_nil,qbs]
   have e6:qbt (([]:List CNode).map qa9) 0=[]:=rfl
   have hw1:IntKind.i64.wrap 0=0:=rfl
   simp only[e5,e6] at hl0 hw hlt ⊢
   have e7:nHB op n binds alts [] [] ([]:List CNode).length=[.box [.list [] (some none)],.box [.int .i64 op,.int .i64 n,.list (binds.map qaY) none,.list [] (some none),.list (alts.map qaU) none]]:=rfl
   rw[e7] at hl0
   simp only[List.length_nil,Int.natCast_zero,List.map_nil] at hl0
   unfold fn183
   simp -implicitDefEqProofs only[qad,qaJ,qae,qap,qac,qah,aOp,opd,qai,qa3,qak,qaB,qag,qaZ,qbb,qcg,qba,qaj,qaw,qaA,qby,qbC,qaG,leaf,qar,qbn,qaV,qaT,qan,qax,qaH,qaS,gcE,qa0,qaf,qaE,qat,qaD,qaF,qa5,ren,renC,qbj,qcN,qbU,qcd,qbi,qa2,qaR,qaL,qa8,qbR,qck,qbh,qbq,qaa,qbV,qbG,qaq,qch,qbc,qav,qao,Option.map_some,Option.getD_some,List.map_cons,List.map_nil,List.flatMap_cons,List.flatMap_nil,List.length_cons,List.length_nil,List.cons_append,List.nil_append,List.append_nil,List.getElem?_cons_zero,List.getElem?_cons_succ,List.set_cons_zero,List.set_cons_succ,List.take_succ_cons,List.take_zero,List.drop_succ_cons,List.drop_zero,List.take_nil,List.drop_nil,List.all_cons,List.all_nil,List.not_mem_nil,↓reduceIte,Bool.and_true,Bool.false_eq_true,and_true,not_false_eq_true,decide_true,decide_false,and_self,Nat.le_refl,reduceCtorEq,Nat.add_zero,Nat.zero_add,Nat.reduceEqDiff,Nat.reduceAdd,Nat.reduceLT,Nat.reduceLeDiff,List.cons_ne_nil,qb8,qaC,qaK,qa1,Int.cast_ofNat_Int,qfo,qbF,qay,hl0,hdA,hdX,hw,hw1,Int.natCast_zero,Int.natCast_one,Int.reduceSub,qaN L hp,hp]
  ·have e7:nHB op n binds alts (qbs (kids.map qa9) 0) (qbt (kids.map qa9) 0) kids.length=[.box [.list ((qbs (kids.map qa9) 0).map qaP) (some (some 2))],.box [.int .i64 op,.int .i64 n,.list (binds.map qaY) none,.list ((qbt (kids.map qa9) 0).map qaY) (some (some 3)),.list (alts.map qaU) none],.tail (qbs (kids.map qa9) 0).length 5,.tail kids.length 1]:=if_neg hm
   rw[e7] at hl0
   generalize qbs (kids.map qa9) 0=ou at *
   have hdO:=qbg ou
   have hallO:=qkn ou
   generalize qbt (kids.map qa9) 0=ids at *
   unfold fn183
   simp -implicitDefEqProofs only[qad,qaJ,qae,qap,qac,qah,aOp,opd,qai,qa3,qak,qaB,qag,qaZ,qbb,qcg,qba,qaj,qaw,qaA,qby,qbC,qaG,leaf,qar,qbn,qaV,qaT,qan,qax,qaH,qaS,gcE,qa0,qaf,qaE,qat,qaD,qaF,qa5,ren,renC,qbj,qcN,qbU,qcd,qbi,qa2,qaR,qaL,qa8,qbR,qck,qbh,qbq,qaa,qbV,qbG,qaq,qch,qbc,qav,qao,qdb,Option.map_some,Option.getD_some,List.map_cons,List.map_nil,List.flatMap_cons,List.flatMap_nil,List.length_cons,List.length_nil,List.length_append,List.length_map,List.cons_append,List.nil_append,List.append_nil,List.getElem?_cons_zero,List.getElem?_cons_succ,List.set_cons_zero,List.set_cons_succ,List.take_succ_cons,List.take_zero,List.drop_succ_cons,List.drop_zero,List.take_nil,List.drop_nil,List.all_cons,List.all_nil,List.not_mem_nil,↓reduceIte,Bool.and_true,Bool.false_eq_true,and_true,not_false_eq_true,decide_true,decide_false,and_self,Nat.le_refl,reduceCtorEq,Nat.add_zero,Nat.zero_add,Nat.reduceEqDiff,Nat.reduceAdd,Nat.reduceLT,Nat.reduceLeDiff,List.cons_ne_nil,qb8,qaC,qaK,List.map_append,qa1,qfo,qbF,qay,hl0,hdA,hdT,hdX,hdI,hdO,hallO,hlt,hw,qaN L hp,hp]
 ·have hl0:=qu0 hL op n binds kids alts outs hz (by omega) hkl ih
  unfold nA nA' at hl0
  simp only[List.map_nil,qel,qeq,List.append_nil,Int.natCast_zero] at hl0
  rw[qk1 hz]
  generalize outs++qbs (kids.map qa9) outs.length=ou at *
  have hdO:=qbg ou
  have hallO:=qkn ou
  generalize qbt (kids.map qa9) outs.length=ids at *
  rcases qiN 3 1 kids.length with ⟨k1,k2⟩ | ⟨k1,k2⟩<;>rw[k1,k2] at hl0<;>unfold fn183 <;>
   simp -implicitDefEqProofs only[qad,qaJ,qae,qap,qac,qah,aOp,opd,qai,qa3,qak,qaB,qag,qaZ,qbb,qcg,qba,qaj,qaw,qaA,qby,qbC,qaG,leaf,qar,qbn,qaV,qaT,qan,qax,qaH,qaS,gcE,qa0,qaf,qaE,qat,qaD,qaF,qa5,ren,renC,qbj,qcN,qbU,qcd,qbi,qd9,qa2,qaR,qaL,qa8,qbR,qck,qbh,qbq,qaa,qbV,qbG,qaq,qch,qbc,qav,qao,qdb,Option.map_some,Option.getD_some,List.map_cons,List.map_nil,List.flatMap_cons,List.flatMap_nil,List.length_cons,List.length_nil,List.length_append,List.length_map,List.cons_append,List.nil_append,List.append_nil,List.getElem?_cons_zero,List.getElem?_cons_succ,List.set_cons_zero,List.set_cons_succ,List.take_succ_cons,List.take_zero,List.drop_succ_cons,List.drop_zero,List.take_nil,List.drop_nil,List.all_cons,List.all_nil,List.not_mem_nil,↓reduceIte,Bool.and_true,Bool.false_eq_true,and_true,not_false_eq_true,decide_true,decide_false,and_self,Nat.le_refl,reduceCtorEq,Nat.add_zero,Nat.zero_add,Nat.reduceEqDiff,Nat.reduceAdd,Nat.reduceLT,Nat.reduceLeDiff,List.cons_ne_nil,qb8,qaC,qaK,List.map_append,qa1,qfo,qbF,qay,hl0,hdA,hdT,hdX,hdI,hdO0,hdO,hallO,hlt,hw,qaN L hp,hp]
theorem qu2 (h183:L.fns 183=some fn183) (t:CNode):qnp L t:=by
 induction t using CNode.ind with
 | h op n binds xk kids alts ih=>exact qsO hL h183 op n binds xk kids alts ih
theorem qrq (h183:L.fns 183=some fn183) (h154:L.fns 154=some fn154) (t:CNode) (hsz:qbv (qa9 t)<2 ^ 30) (h:Heap) :
  pcall L 154 [qcl t] h=some (.val (.list ((qbN (qa9 t)).map qaP) none),h):=by
 have hp:=hL.pure
 have hw:=qu2 hL h183 t [] (by simpa using hsz)
 refine qbK hL h154 (by rw[qaa];exact qbg _) ?_ h
 have hpos:0<([]++qdH (qa9 t) ([]:List CExpr).length).length:=by rw[List.nil_append,qdz];exact qeE _
 rw[qk1 hpos,qsN] at hw
 unfold qbN
 rw[List.nil_append,List.length_nil] at hw
 generalize qdH (qa9 t) 0=ou at *
 have hdO:=qbg ou
 obtain⟨tc,htc,hdt⟩:=qd4 t
 rw[htc] at hw ⊢
 unfold fn154
 simp -implicitDefEqProofs only[qad,qae,qap,qac,qah,aOp,opd,qai,qak,qag,qaA,qaT,qan,qax,qaH,qat,qaD,qa5,ren,renC,qbj,qcN,qbU,qcd,qbi,qbY,qdo,qbD,qbV,qbG,qaq,qaQ,qbc,qav,qao,Option.map_some,Option.getD_some,List.map_cons,List.map_nil,List.flatMap_cons,List.flatMap_nil,List.length_cons,List.length_nil,List.cons_append,List.nil_append,List.append_nil,List.getElem?_cons_zero,List.getElem?_cons_succ,List.take_succ_cons,List.take_zero,List.all_cons,List.all_nil,List.not_mem_nil,↓reduceIte,Bool.and_true,Bool.and_false,Bool.false_eq_true,not_false_eq_true,decide_true,and_self,Nat.le_refl,reduceCtorEq,Nat.add_zero,Nat.zero_add,Nat.reduceEqDiff,Nat.reduceLT,qec,qc2,qe3,qc3,qdu,qft,qc1,qgN,qeb,qcL,qaI,hw,hdO,hdt,qaN L hp,hp]
end
def nN (op n:Int) (kids:List CNode):CNode:=.mk op n [] [] kids []
def nB_ (op:Int) (binds:List Int) (kids:List CNode):CNode:=.mk op 0 binds [] kids []
theorem qrA (t:CNode):wipeR (qcl t)=qcl t:=by cases t;rw[qdY];rfl
theorem qo6 (t:CNode):acells (qcl t)=[qcl t]:=by cases t;rw[qdY];rfl
section
variable {L:Lib} (hC:CLib2 L)
include hC
theorem qyX (op n:Int) (kids:List CNode) (h:Heap):pcall L 177 [.int .i64 op,.int .i64 n,.list (kids.map qcl) none] h=some (.val (qcl (nN op n kids)),h):=by
 have hL:=hC.plain
 have hp:=hL.pure
 refine qbK hL hC.f177 (qe2 _) ?_ h
 have hd:=qfu kids
 unfold nN
 rw[qdY]
 unfold fn177
 simp -implicitDefEqProofs only[qad,qae,qap,qac,qah,aOp,opd,qai,qak,qag,qcZ,qdf,leaf,qar,qaM,qbn,qaV,qaT,qan,qax,qaH,qbh,qbq,qaa,qaq,qav,qao,Option.map_some,Option.getD_some,List.map_cons,List.map_nil,List.length_cons,List.length_nil,List.cons_append,List.nil_append,List.append_nil,List.getElem?_cons_zero,List.getElem?_cons_succ,List.set_cons_zero,List.take_succ_cons,List.take_zero,List.drop_succ_cons,List.drop_zero,List.drop_nil,List.all_cons,List.all_nil,↓reduceIte,Bool.and_true,and_self,Nat.le_refl,reduceCtorEq,Nat.zero_add,Nat.reduceEqDiff,Nat.reduceAdd,Nat.reduceLeDiff,qbO,qca,qcC,qc0,frz,frzC,qja,qaI,hd,qes]
theorem qyW (op:Int) (binds:List Int) (kids:List CNode) (h:Heap):pcall L 161 [.int .i64 op,.list (binds.map qaY) none,.list (kids.map qcl) none] h=some (.val (qcl (nB_ op binds kids)),h):=by
 have hL:=hC.plain
 have hp:=hL.pure
 refine qbK hL hC.f161 (qe2 _) ?_ h
 have hd:=qfu kids
 unfold nB_
 rw[qdY]
 unfold fn161
 simp -implicitDefEqProofs only[qad,qae,qap,qac,qah,aOp,opd,qai,qak,qag,qcZ,qdf,leaf,qar,qaM,qbn,qaV,qaT,qan,qax,qaH,qbh,qbq,qaa,qaq,qav,qao,Option.map_some,Option.getD_some,List.map_cons,List.map_nil,List.length_cons,List.length_nil,List.cons_append,List.nil_append,List.append_nil,List.getElem?_cons_zero,List.getElem?_cons_succ,List.set_cons_zero,List.take_succ_cons,List.take_zero,List.drop_succ_cons,List.drop_zero,List.drop_nil,List.all_cons,List.all_nil,↓reduceIte,Bool.and_true,and_self,Nat.le_refl,reduceCtorEq,Nat.zero_add,Nat.reduceEqDiff,Nat.reduceAdd,Nat.reduceLeDiff,qbO,qca,qcC,qc0,frz,frzC,qja,qaI,qay,hd,qes]
theorem quZ (t:CNode) (hsz:qbv (qa9 t)<2 ^ 30) (h:Heap):pcall L 154 [qcl t] h=some (.val (.list ((qbN (qa9 t)).map qaP) none),h):=qrq hC.plain hC.f183 hC.f154 t hsz h
end
end Go.Abs
