/-
  PARTS OF A PROOF, joined: an abstract machine for quiet code, its evaluation, and what the seat's functions answer on it. Conditions: none.
-/
import Derived.Test.YtbmognfolkhkpaaDoorW
set_option linter.unusedVariables false
set_option linter.unusedSimpArgs false
set_option maxRecDepth 100000
set_option maxHeartbeats 4000000
namespace Go.Abs
inductive CNode where
 | mk (op n:Int) (binds xk:List Int) (kids:List CNode) (alts:List CAlt)
def qcQ:CNode→AVal
 | .mk op n binds xk kids alts=>.vptr [.int .i64 op,.int .i64 n,.list (binds.map qa4) none,.list (xk.map qa4) none,.list (alts.map qa6) none,.list (kids.attach.map fun k=>qcQ k.1) none] 0
 termination_by t=>SizeOf.sizeOf t
 decreasing_by
  have:=List.sizeOf_lt_of_mem k.2
  simp only[CNode.mk.sizeOf_spec]
  omega
def qbi:CNode→CTree
 | .mk op n binds xk kids alts=>.mk op n binds (kids.attach.map fun k=>qbi k.1) alts
 termination_by t=>SizeOf.sizeOf t
 decreasing_by
  have:=List.sizeOf_lt_of_mem k.2
  simp only[CNode.mk.sizeOf_spec]
  omega
theorem qgV (op n:Int) (binds xk:List Int) (kids:List CNode) (alts:List CAlt):qcQ (.mk op n binds xk kids alts)=.vptr [.int .i64 op,.int .i64 n,.list (binds.map qa4) none,.list (xk.map qa4) none,.list (alts.map qa6) none,.list (kids.map qcQ) none] 0:=by
 rw[qcQ]
 simp
theorem qfD (op n:Int) (binds xk:List Int) (kids:List CNode) (alts:List CAlt):qbi (.mk op n binds xk kids alts)=.mk op n binds (kids.map qbi) alts:=by
 rw[qbi]
 simp
theorem CNode.ind {P:CNode→Prop} (h:∀ op n binds xk kids alts,(∀ k∈kids,P k)→P (.mk op n binds xk kids alts)):∀ t,P t
 | .mk op n binds xk kids alts=>h op n binds xk kids alts fun k hk=>CNode.ind h k
 termination_by t=>SizeOf.sizeOf t
 decreasing_by
  have:=List.sizeOf_lt_of_mem hk
  simp only[CNode.mk.sizeOf_spec]
  omega
theorem qgq (t:CNode):qbd (qcQ t)=true:=by
 induction t using CNode.ind with
 | h op n binds xk kids alts ih =>
   rw[qgV]
   have:qaZ (kids.map qcQ)=true:=by
    clear op n binds xk alts
    induction kids with
    | nil=>rfl
    | cons k ks ih'=>rw[List.map_cons,qaZ,ih k (by simp),ih' fun x hx=>ih x (by simp[hx])];rfl
   simp only[qbd,qaZ,qaA,qaP,this,Bool.and_self]
theorem qgT (l:List CNode):qaZ (l.map qcQ)=true:=qcW _ qgq l
theorem qeo (t:CNode):∃ tc,qcQ t=.vptr tc 0∧qaZ tc=true:=by
 have h:=qgq t
 cases t
 rw[qgV] at h ⊢
 exact⟨_,rfl,h⟩
def mh (outs:List CExpr):Heap:=[.box [.list (outs.map qaO) (qfx 1 outs.length)]]++qdr 5 outs.length
theorem qr7:mh []=[.box [.list [] (some none)]]:=rfl
theorem qkL {outs:List CExpr} (h:0<outs.length):mh outs=[.box [.list (outs.map qaO) (some (some 1))],.tail outs.length 5]:=by
 unfold mh
 rw[qes h,qdO h]
 rfl
def qm5 (L:Lib) (t:CNode):Prop:=∀ outs:List CExpr,outs.length+qbA (qbi t)<2 ^ 30→call L 183 [qcQ t,.ptr (some (0,0))] (mh outs)=some (.val (.int .i64 ((outs.length+qbA (qbi t)-1:Nat):Int)),mh (outs++qdu (qbi t) outs.length))
def nA (op n:Int) (binds:List Int) (kids:List CNode) (alts:List CAlt) (outs:List CExpr) (ids:List Int) (j:Nat):St :=
 ⟨kt [1,5,16,17,18] [.ptr (some (0,0)),.ptr (some (2,0)),.list (kids.map qcQ) none,.int .i64 kids.length,.int .i64 j],
  [.box [.list (outs.map qaO) (some (some 1))],.tail outs.length 5,.box [.int .i64 op,.int .i64 n,.list (binds.map qa4) none,.list (ids.map qa4) (qfx 3 j),.list (alts.map qa6) none]]++qdr 1 j⟩
def nA' (op n:Int) (binds:List Int) (alts:List CAlt) (outs:List CExpr) (ids:List Int) (j:Nat):St :=
 ⟨kt [1,5] [.ptr (some (0,0)),.ptr (some (2,0))],
  [.box [.list (outs.map qaO) (some (some 1))],.tail outs.length 5,.box [.int .i64 op,.int .i64 n,.list (binds.map qa4) none,.list (ids.map qa4) (qfx 3 j),.list (alts.map qa6) none]]++qdr 1 j⟩
section
variable {L:Lib} (hL:Plain L)
include hL
theorem qt5 (op n:Int) (binds:List Int) (kids:List CNode) (alts:List CAlt) (outs:List CExpr) (h0:0<outs.length) (hsz:outs.length+qa9 (kids.map qbi)<2 ^ 30) (hkl:kids.length<2 ^ 30) (ih:∀ k∈kids,qm5 L k) :
  qb7 L.pure (call L) 3 [1,5,16,17,18] [1,5] 0 qdV (nA op n binds kids alts outs [] 0)=some (.normal,nA' op n binds alts (outs++qbs (kids.map qbi) outs.length) (qbt (kids.map qbi) outs.length) kids.length):=by
 have hp:=hL.pure
 have hdT:=qgT kids
 have hdX:=qaP alts
 have hC:=qeb (pure:=L.pure) (call:=call L) (b:=3) (keep:=[1,5,16,17,18]) (fk:=[1,5]) (id:=0) (body:=qdV)
  (fun j=>nA op n binds kids alts (outs++qbs ((kids.map qbi).take j) outs.length) (qbt ((kids.map qbi).take j) outs.length) j) kids.length (T:=nA' op n binds alts (outs++qbs (kids.map qbi) outs.length) (qbt (kids.map qbi) outs.length) kids.length) ?_ ?_
 ·have e0:qbs ((kids.map qbi).take 0) outs.length=[]:=by rw[List.take_zero,qbs]
  have e1:qbt ((kids.map qbi).take 0) outs.length=[]:=by rw[List.take_zero,qbt]
  simp only[e0,e1,List.append_nil] at hC
  exact hC
 ·intro j hj
  obtain⟨h1,h2,h3⟩:=qbF qcQ kids hkl j hj
  have hw:=ih kids[j] (List.getElem_mem hj) (outs++qbs ((kids.map qbi).take j) outs.length)
  have hlen:(outs++qbs ((kids.map qbi).take j) outs.length).length=outs.length+qa9 ((kids.map qbi).take j):=by rw[List.length_append,qeX]
  have hj2:j<(kids.map qbi).length:=by simpa using hj
  have hle:=qgO (kids.map qbi) (j+1)
  rw[qk3 (kids.map qbi) j hj2,List.getElem_map] at hle
  have hrl:(qbt ((kids.map qbi).take j) outs.length).length=j:=by rw[qe3];simp;omega
  have hjj:j+1≤1073741824:=by omega
  rw[List.take_succ_eq_append_getElem hj2,List.getElem_map,qhK,qgI,← List.append_assoc,← hlen]
  have hw:=hw (by rw[hlen];omega)
  have hpos:0<(outs++qbs ((kids.map qbi).take j) outs.length).length:=by rw[hlen];omega
  generalize outs++qbs ((kids.map qbi).take j) outs.length=ou at *
  generalize qbt ((kids.map qbi).take j) outs.length=ids at *
  generalize kids[j]=kid at *
  have hpos2:0<(ou++qdu (qbi kid) ou.length).length:=by rw[List.length_append];omega
  rw[qkL hpos,qkL hpos2] at hw
  have hdO:=qbu ou
  generalize ou++qdu (qbi kid) ou.length=ou2 at *
  have hdO2:=qbu ou2
  have hall:=qeD ids
  have hdI:=qaA ids
  obtain⟨tc,htc,hdt⟩:=qeo kid
  rw[htc] at hw
  rcases Nat.eq_zero_or_pos j with hz | hz
  ·have:ids=[]:=List.length_eq_zero_iff.1 (by omega)
   subst this
   have o1:qfx 3 j=some none:=by rw[hz];rfl
   have o2:qdr 1 j=[]:=by rw[hz];rfl
   have o3:j+1=1:=by omega
   unfold qdV nA
   simp -implicitDefEqProofs only[qam,qad,qaL,qae,qab,qai,qac,qah,aOp,opd,qak,qaW,qaB,qag,qaV,qba,qa8,qan,qaj,qax,qay,qbr,qaE,leaf,qaJ,qbn,qbg,qaR,qaX,qaf,qaF,qas,qaH,qaG,qa5,ren,renC,qbm,qcE,qbT,qb2,qbl,qdZ,qa2,qaT,qaN,qbc,qcg,qbw,qdd,qbv,qaa,qbI,qaq,qaQ,qbe,qav,qat,Option.getD_some,List.map_cons,List.map_nil,List.flatMap_cons,List.flatMap_nil,List.length_cons,List.length_nil,List.cons_append,List.nil_append,List.append_nil,List.getElem?_cons_zero,List.getElem?_cons_succ,List.set_cons_zero,List.set_cons_succ,List.take_succ_cons,List.take_zero,List.drop_succ_cons,List.drop_zero,List.take_nil,List.all_cons,List.all_nil,List.mem_cons,List.not_mem_nil,↓reduceIte,Bool.and_true,Bool.and_false,Bool.false_eq_true,and_true,and_false,or_true,or_false,not_true_eq_false,not_false_eq_true,decide_true,decide_false,and_self,Nat.le_refl,Nat.zero_le,reduceCtorEq,Nat.zero_add,Nat.reduceEqDiff,Nat.reduceAdd,Nat.reduceSub,Nat.reduceLT,Nat.reduceLeDiff,Int.toNat_natCast,Int.natCast_nonneg,List.cons_ne_nil,qaz,qck,qbP,qaC,qcr,qaM,forall_const,forall_eq_or_imp,forall_eq,qa0,Int.cast_ofNat_Int,qfa,qdM,qgu,qdN,qer,qfn,qdL,qjq,qe1,qdh,qfy,qe5,qbM,qaA,h1,h2,h3,hw,hdT,hdX,hdO,hdO2,htc,hdt,o1,o2,o3,qaK L hp,hp]
  ·have o1:=qes (b:=3) hz
   have o2:=qdO (sz:=1) hz
   unfold qdV nA
   simp -implicitDefEqProofs only[qam,qad,qaL,qae,qab,qai,qac,qah,aOp,opd,qak,qaW,qaB,qag,qaV,qba,qa8,qan,qaj,qax,qay,qbr,qaE,leaf,qaJ,qbn,qbg,qaR,qaX,qaf,qaF,qas,qaH,qaG,qa5,ren,renC,qbm,qcE,qbT,qb2,qbl,qdZ,qa2,qaT,qaN,qbc,qcg,qbw,qdd,qbv,qaa,qbI,qaq,qaQ,qbe,qav,qat,qcB,Option.getD_some,List.map_cons,List.map_nil,List.flatMap_cons,List.flatMap_nil,List.length_cons,List.length_nil,List.length_map,List.cons_append,List.nil_append,List.append_nil,List.getElem?_cons_zero,List.getElem?_cons_succ,List.set_cons_zero,List.set_cons_succ,List.take_succ_cons,List.take_zero,List.drop_succ_cons,List.drop_zero,List.take_nil,List.all_cons,List.all_nil,List.mem_cons,List.not_mem_nil,↓reduceIte,Bool.and_true,Bool.and_false,Bool.false_eq_true,and_true,and_false,or_true,or_false,not_true_eq_false,not_false_eq_true,decide_true,decide_false,and_self,Nat.le_refl,Nat.zero_le,reduceCtorEq,Nat.zero_add,Nat.reduceEqDiff,Nat.reduceAdd,Nat.reduceSub,Nat.reduceLT,Nat.reduceLeDiff,Int.toNat_natCast,Int.natCast_nonneg,List.cons_ne_nil,qaz,qck,qbP,qaC,qcr,qaM,forall_const,forall_eq_or_imp,forall_eq,List.map_append,qa0,qfa,qdM,qgu,qdN,qer,qfn,qdL,qjq,qe1,qdh,qfy,qe5,qbM,qaA,h1,h2,h3,hw,hdT,hdX,hdO,hdO2,htc,hdt,hall,hdI,hrl,hjj,o1,o2,qaK L hp,hp]
 ·have h0':=qbG kids.length
  have ht:(kids.map qbi).take kids.length=kids.map qbi:=List.take_of_length_le (by simp)
  rw[ht]
  generalize outs++qbs (kids.map qbi) outs.length=ou
  have hdO:=qbu ou
  have hdI:=qaA (qbt (kids.map qbi) outs.length)
  generalize qbt (kids.map qbi) outs.length=ids at *
  unfold qdV nA nA'
  rcases qix 3 1 kids.length with ⟨o1,o2⟩ | ⟨o1,o2⟩<;>simp -implicitDefEqProofs only[qad,qae,qab,qbj,qac,qah,aOp,opd,qak,qaB,qag,qba,qa8,qaj,gcE,qaX,qaf,qaF,qas,qaH,qaG,qa5,ren,renC,qbm,qcE,qbT,qb2,qbl,qdZ,qaa,qbV,qbI,qaq,qbe,Option.getD_some,List.map_cons,List.map_nil,List.flatMap_cons,List.flatMap_nil,List.length_cons,List.length_nil,List.cons_append,List.nil_append,List.append_nil,List.getElem?_cons_zero,List.getElem?_cons_succ,List.take_succ_cons,List.take_zero,List.take_nil,List.not_mem_nil,↓reduceIte,Bool.false_eq_true,and_true,not_false_eq_true,decide_false,and_self,Nat.le_refl,Nat.zero_add,Nat.reduceEqDiff,Nat.reduceAdd,Nat.reduceLT,Nat.reduceLeDiff,qaz,qa0,qaA,h0',hdT,hdX,hdO,hdI,o1,o2]
def nHB (op n:Int) (binds:List Int) (alts:List CAlt) (outs:List CExpr) (ids:List Int) (j:Nat):Heap :=
 if j=0 then [.box [.list [] (some none)],.box [.int .i64 op,.int .i64 n,.list (binds.map qa4) none,.list [] (some none),.list (alts.map qa6) none]]
 else [.box [.list (outs.map qaO) (some (some 2))],.box [.int .i64 op,.int .i64 n,.list (binds.map qa4) none,.list (ids.map qa4) (some (some 3)),.list (alts.map qa6) none],.tail outs.length 5,.tail j 1]
def nB (op n:Int) (binds:List Int) (kids:List CNode) (alts:List CAlt) (outs:List CExpr) (ids:List Int) (j:Nat):St :=
 ⟨kt [1,5,16,17,18] [.ptr (some (0,0)),.ptr (some (1,0)),.list (kids.map qcQ) none,.int .i64 kids.length,.int .i64 j],nHB op n binds alts outs ids j⟩
def nB' (op n:Int) (binds:List Int) (alts:List CAlt) (outs:List CExpr) (ids:List Int) (j:Nat):St :=
 ⟨kt [1,5] [.ptr (some (0,0)),.ptr (some (1,0))],nHB op n binds alts outs ids j⟩
theorem qt6 (op n:Int) (binds:List Int) (kids:List CNode) (alts:List CAlt) (hsz:qa9 (kids.map qbi)<2 ^ 30) (hkl:kids.length<2 ^ 30) (ih:∀ k∈kids,qm5 L k) :
  qb7 L.pure (call L) 2 [1,5,16,17,18] [1,5] 0 qdV (nB op n binds kids alts [] [] 0)=some (.normal,nB' op n binds alts (qbs (kids.map qbi) 0) (qbt (kids.map qbi) 0) kids.length):=by
 have hp:=hL.pure
 have hdT:=qgT kids
 have hdX:=qaP alts
 have hC:=qeb (pure:=L.pure) (call:=call L) (b:=2) (keep:=[1,5,16,17,18]) (fk:=[1,5]) (id:=0) (body:=qdV)
  (fun j=>nB op n binds kids alts (qbs ((kids.map qbi).take j) 0) (qbt ((kids.map qbi).take j) 0) j) kids.length (T:=nB' op n binds alts (qbs (kids.map qbi) 0) (qbt (kids.map qbi) 0) kids.length) ?_ ?_
 ·have e0:qbs ((kids.map qbi).take 0) 0=[]:=by rw[List.take_zero,qbs]
  have e1:qbt ((kids.map qbi).take 0) 0=[]:=by rw[List.take_zero,qbt]
  simp only[e0,e1] at hC
  exact hC
 ·intro j hj
  obtain⟨h1,h2,h3⟩:=qbF qcQ kids hkl j hj
  have hw:=ih kids[j] (List.getElem_mem hj) (qbs ((kids.map qbi).take j) 0)
  have hlen:(qbs ((kids.map qbi).take j) 0).length=0+qa9 ((kids.map qbi).take j):=by rw[qeX];omega
  have hj2:j<(kids.map qbi).length:=by simpa using hj
  have hle:=qgO (kids.map qbi) (j+1)
  rw[qk3 (kids.map qbi) j hj2,List.getElem_map] at hle
  have hrl:(qbt ((kids.map qbi).take j) 0).length=j:=by rw[qe3];simp;omega
  have hjj:j+1≤1073741824:=by omega
  rw[List.take_succ_eq_append_getElem hj2,List.getElem_map,qhK,qgI,← hlen]
  have hw:=hw (by rw[hlen];omega)
  have hkp:0<qbA (qbi kids[j]):=qev _
  have hz0:j=0→qbs ((kids.map qbi).take j) 0=[]:=by intro h;rw[h,List.take_zero,qbs]
  have hzp:0<j→0<(qbs ((kids.map qbi).take j) 0).length:=by
   intro h
   rw[hlen]
   cases kids with
   | nil=>simp at hj
   | cons x xs =>
     cases j with
     | zero=>omega
     | succ j=>rw[List.map_cons,List.take_succ_cons,qa9];have:=qev (qbi x);omega
  have hll:(qdu (qbi kids[j]) (qbs ((kids.map qbi).take j) 0).length).length=qbA (qbi kids[j]):=qeJ _ _
  generalize qbs ((kids.map qbi).take j) 0=ou at *
  generalize qbt ((kids.map qbi).take j) 0=ids at *
  generalize kids[j]=kid at *
  have hpos2:0<(ou++qdu (qbi kid) ou.length).length:=by rw[List.length_append];omega
  rw[qkL hpos2] at hw
  have hdO:=qbu ou
  have hall:=qeD ids
  have hdI:=qaA ids
  obtain⟨tc,htc,hdt⟩:=qeo kid
  rw[htc] at hw
  have e3:∀ a b,nHB op n binds alts a b (j+1)=[.box [.list (a.map qaO) (some (some 2))],.box [.int .i64 op,.int .i64 n,.list (binds.map qa4) none,.list (b.map qa4) (some (some 3)),.list (alts.map qa6) none],.tail a.length 5,.tail (j+1) 1]:=fun a b=>if_neg (by omega)
  rcases Nat.eq_zero_or_pos j with hz | hz
  ·have:ids=[]:=List.length_eq_zero_iff.1 (by omega)
   subst this
   have:=hz0 hz
   subst this
   rw[qr7] at hw
   have o3:j+1=1:=by omega
   have e4:nHB op n binds alts [] [] j=[.box [.list [] (some none)],.box [.int .i64 op,.int .i64 n,.list (binds.map qa4) none,.list [] (some none),.list (alts.map qa6) none]]:=if_pos hz
   generalize []++qdu (qbi kid) ([]:List CExpr).length=ou2 at *
   have hdO2:=qbu ou2
   unfold qdV nB
   rw[e3,e4]
   simp -implicitDefEqProofs only[qam,qad,qaL,qae,qab,qai,qac,qah,aOp,opd,qak,qaW,qaB,qag,qaV,qba,qa8,qan,qaj,qax,qay,qbr,qaE,leaf,qaJ,qbn,qbg,qaR,qaX,qaf,qaF,qas,qaH,qaG,qa5,ren,renC,qbm,qcE,qbT,qb2,qbl,qa2,qaT,qaN,qbc,qcg,qbw,qdd,qbv,qaa,qbV,qbI,qaq,qaQ,qbe,qav,qat,Option.map_some,Option.getD_some,List.map_cons,List.map_nil,List.flatMap_cons,List.flatMap_nil,List.length_cons,List.length_nil,List.cons_append,List.nil_append,List.append_nil,List.getElem?_cons_zero,List.getElem?_cons_succ,List.set_cons_zero,List.set_cons_succ,List.take_succ_cons,List.take_zero,List.drop_succ_cons,List.drop_zero,List.all_cons,List.all_nil,List.mem_cons,List.not_mem_nil,↓reduceIte,Bool.and_true,Bool.and_false,Bool.false_eq_true,and_true,or_false,not_false_eq_true,decide_true,decide_false,and_self,Nat.le_refl,reduceCtorEq,Nat.add_zero,Nat.zero_add,Nat.reduceEqDiff,Nat.reduceAdd,Nat.reduceSub,Nat.reduceLT,Nat.reduceLeDiff,Int.toNat_natCast,Int.natCast_nonneg,List.cons_ne_nil,qaz,qck,qbP,qaC,qcr,qaM,forall_const,forall_eq_or_imp,forall_eq,qa0,Int.cast_ofNat_Int,qfa,qdM,qgu,qdN,qer,qfn,qdL,qjq,qe1,qdh,qbM,qaA,h1,h2,h3,hw,hdT,hdX,hdO2,htc,hdt,o3,qaK L hp,hp]
  ·rw[qkL (hzp hz)] at hw
   have e4:nHB op n binds alts ou ids j=[.box [.list (ou.map qaO) (some (some 2))],.box [.int .i64 op,.int .i64 n,.list (binds.map qa4) none,.list (ids.map qa4) (some (some 3)),.list (alts.map qa6) none],.tail ou.length 5,.tail j 1]:=if_neg (by omega)
   generalize ou++qdu (qbi kid) ou.length=ou2 at *
   have hdO2:=qbu ou2
   unfold qdV nB
   rw[e3,e4]
   simp -implicitDefEqProofs only[qam,qad,qaL,qae,qab,qai,qac,qah,aOp,opd,qak,qaW,qaB,qag,qaV,qba,qa8,qan,qaj,qax,qay,qbr,qaE,leaf,qaJ,qbn,qbg,qaR,qaX,qaf,qaF,qas,qaH,qaG,qa5,ren,renC,qbm,qcE,qbT,qb2,qbl,qdZ,qa2,qaT,qaN,qbc,qcg,qbw,qdd,qbv,qaa,qbI,qaq,qaQ,qbe,qav,qat,qcB,Option.getD_some,List.map_cons,List.map_nil,List.flatMap_cons,List.flatMap_nil,List.length_cons,List.length_nil,List.length_map,List.cons_append,List.nil_append,List.append_nil,List.getElem?_cons_zero,List.getElem?_cons_succ,List.set_cons_zero,List.set_cons_succ,List.take_succ_cons,List.take_zero,List.drop_succ_cons,List.drop_zero,List.take_nil,List.all_cons,List.all_nil,List.mem_cons,List.not_mem_nil,↓reduceIte,Bool.and_true,Bool.and_false,Bool.false_eq_true,and_true,and_false,or_true,or_false,not_true_eq_false,not_false_eq_true,decide_true,decide_false,and_self,Nat.le_refl,Nat.zero_le,reduceCtorEq,Nat.zero_add,Nat.reduceEqDiff,Nat.reduceAdd,Nat.reduceSub,Nat.reduceLT,Nat.reduceLeDiff,Int.toNat_natCast,Int.natCast_nonneg,List.cons_ne_nil,qaz,qck,qbP,qaC,qcr,qaM,forall_const,forall_eq_or_imp,forall_eq,List.map_append,qa0,qfa,qdM,qgu,qdN,qer,qfn,qdL,qjq,qe1,qdh,qbM,qaA,h1,h2,h3,hw,hdT,hdX,hdO,hdO2,htc,hdt,hall,hdI,hrl,hjj,qaK L hp,hp]
 ·have h0':=qbG kids.length
  have ht:(kids.map qbi).take kids.length=kids.map qbi:=List.take_of_length_le (by simp)
  rw[ht]
  have hdO:=qbu (qbs (kids.map qbi) 0)
  have hdI:=qaA (qbt (kids.map qbi) 0)
  generalize qbs (kids.map qbi) 0=ou at *
  generalize qbt (kids.map qbi) 0=ids at *
  unfold qdV nB nB' nHB
  by_cases hz:kids.length=0
  ·rw[if_pos hz]
   simp -implicitDefEqProofs only[qad,qae,qab,qbj,qac,qah,aOp,opd,qak,qaB,qag,qba,qa8,qaj,gcE,qaX,qaf,qaF,qas,qaH,qaG,qa5,ren,renC,qbm,qbT,qb2,qbl,qaa,qbV,qaq,qbe,qav,List.map_cons,List.map_nil,List.flatMap_cons,List.flatMap_nil,List.length_cons,List.length_nil,List.cons_append,List.nil_append,List.append_nil,List.take_succ_cons,List.take_nil,List.not_mem_nil,↓reduceIte,Bool.false_eq_true,and_true,not_false_eq_true,decide_false,Nat.le_refl,Nat.zero_add,Nat.reduceEqDiff,Nat.reduceAdd,Nat.reduceLT,Nat.reduceLeDiff,qaz,qa0,qaA,h0',hdT,hdX]
  ·rw[if_neg hz]
   simp -implicitDefEqProofs only[qad,qae,qab,qbj,qac,qah,aOp,opd,qak,qaB,qag,qba,qa8,qaj,gcE,qaX,qaf,qaF,qas,qaH,qaG,qa5,ren,renC,qbm,qcE,qbT,qb2,qbl,qaa,qbI,qaq,qbe,Option.getD_some,List.map_cons,List.map_nil,List.flatMap_cons,List.flatMap_nil,List.length_cons,List.length_nil,List.cons_append,List.nil_append,List.append_nil,List.getElem?_cons_zero,List.getElem?_cons_succ,List.take_succ_cons,List.take_zero,List.mem_cons,List.not_mem_nil,↓reduceIte,Bool.false_eq_true,and_true,or_false,not_false_eq_true,decide_false,and_self,Nat.le_refl,Nat.zero_add,Nat.reduceEqDiff,Nat.reduceAdd,Nat.reduceLT,Nat.reduceLeDiff,qaz,qa0,qaA,h0',hdT,hdX,hdO,hdI]
end
end Go.Abs
set_option linter.unusedVariables false
set_option linter.unusedSimpArgs false
set_option maxRecDepth 100000
set_option maxHeartbeats 4000000
namespace Go.Abs
theorem qhk:∀ ks:List CTree,ks.length≤qa9 ks
 | []=>by rw[qa9];simp
 | k::ks=>by rw[qa9,List.length_cons];have:=qev k;have:=qhk ks;omega
section
variable {L:Lib} (hL:Plain L)
include hL
theorem qr9 (h183:L.fns 183=some fn183) (op n:Int) (binds xk:List Int) (kids:List CNode) (alts:List CAlt) (ih:∀ k∈kids,qm5 L k):qm5 L (.mk op n binds xk kids alts):=by
 have hp:=hL.pure
 intro outs hsz
 rw[qfD,qbA] at hsz
 have hs:L.summ 183=none:=hL.summ 183 (by rw[h183];exact fun hx=>by cases hx)
 refine qbH hs h183 ?_
 have hkl:kids.length<2 ^ 30:=by have:=qhk (kids.map qbi);rw[List.length_map] at this;omega
 have hT:(outs++qbs (kids.map qbi) outs.length).length=outs.length+qa9 (kids.map qbi):=by rw[List.length_append,qeX]
 rw[qfD]
 have hres:outs.length+qbA (.mk op n binds (kids.map qbi) alts)-1=(outs++qbs (kids.map qbi) outs.length).length:=by rw[qbA,hT];omega
 rw[hres,qdu,← List.append_assoc]
 have hdT:=qgT kids
 have hdA:=qaP alts
 have hdX:=qaA xk
 have hdI:=qaA (qbt (kids.map qbi) outs.length)
 have hrl:=qe3 (kids.map qbi) outs.length
 rw[List.length_map] at hrl
 rw[qgV]
 have hpos2:∀ x:CExpr,0<((outs++qbs (kids.map qbi) outs.length)++[x]).length:=fun x=>by rw[List.length_append];simp
 rw[qkL (hpos2 _)]
 have hlt:(outs++qbs (kids.map qbi) outs.length).length+1≤1073741824:=by rw[hT];omega
 have hw:IntKind.i64.wrap ((((outs++qbs (kids.map qbi) outs.length).length+1:Nat):Int)-1)=(((outs++qbs (kids.map qbi) outs.length).length:Nat):Int):=by rw[qc5 (by omega) (by omega)];omega
 have hdO0:=qbu outs
 rcases Nat.eq_zero_or_pos outs.length with hz | hz
 ·have:outs=[]:=List.length_eq_zero_iff.1 hz
  subst this
  have hl0:=qt6 hL op n binds kids alts (by omega) hkl ih
  unfold nB nB' at hl0
  have e4:nHB op n binds alts [] [] 0=[.box [.list [] (some none)],.box [.int .i64 op,.int .i64 n,.list (binds.map qa4) none,.list [] (some none),.list (alts.map qa6) none]]:=rfl
  rw[e4] at hl0
  simp only[Int.natCast_zero] at hl0
  rw[qr7]
  rw[List.nil_append,List.length_nil] at *
  by_cases hm:kids.length=0
  ·have:kids=[]:=List.length_eq_zero_iff.1 hm
   subst this
   have e5:qbs (([]:List CNode).map qbi) 0=[]:=by rw[List.map_nil,qbs]
   have e6:qbt (([]:List CNode).map qbi) 0=[]:=rfl
   have hw1:IntKind.i64.wrap 0=0:=rfl
   simp only[e5,e6] at hl0 hw hlt ⊢
   have e7:nHB op n binds alts [] [] ([]:List CNode).length=[.box [.list [] (some none)],.box [.int .i64 op,.int .i64 n,.list (binds.map qa4) none,.list [] (some none),.list (alts.map qa6) none]]:=rfl
   rw[e7] at hl0
   simp only[List.length_nil,Int.natCast_zero,List.map_nil] at hl0
   unfold fn183
   simp -implicitDefEqProofs only[qad,qaL,qae,qar,qac,qah,aOp,opd,qak,qaW,qal,qaB,qag,qaV,qba,qcb,qa8,qaj,qax,qay,qbr,qbE,qaE,leaf,qau,qbn,qaR,qaS,qao,qaw,qaI,qaU,gcE,qaX,qaf,qaF,qas,qaH,qaG,qa5,ren,renC,qbm,qcE,qbT,qb2,qbl,qa2,qaT,qaN,qbc,qcg,qcf,qbk,qbz,qaa,qbV,qbI,qaq,qcc,qbe,qav,qat,Option.map_some,Option.getD_some,List.map_cons,List.map_nil,List.flatMap_cons,List.flatMap_nil,List.length_cons,List.length_nil,List.cons_append,List.nil_append,List.append_nil,List.getElem?_cons_zero,List.getElem?_cons_succ,List.set_cons_zero,List.set_cons_succ,List.take_succ_cons,List.take_zero,List.drop_succ_cons,List.drop_zero,List.take_nil,List.drop_nil,List.all_cons,List.all_nil,List.not_mem_nil,↓reduceIte,Bool.and_true,Bool.false_eq_true,and_true,not_false_eq_true,decide_true,decide_false,and_self,Nat.le_refl,reduceCtorEq,Nat.add_zero,Nat.zero_add,Nat.reduceEqDiff,Nat.reduceAdd,Nat.reduceLT,Nat.reduceLeDiff,List.cons_ne_nil,qck,qaC,qaM,qa0,Int.cast_ofNat_Int,qfg,qbB,qaA,hl0,hdA,hdX,hw,hw1,Int.natCast_zero,Int.natCast_one,Int.reduceSub,qaK L hp,hp]
  ·have e7:nHB op n binds alts (qbs (kids.map qbi) 0) (qbt (kids.map qbi) 0) kids.length=[.box [.list ((qbs (kids.map qbi) 0).map qaO) (some (some 2))],.box [.int .i64 op,.int .i64 n,.list (binds.map qa4) none,.list ((qbt (kids.map qbi) 0).map qa4) (some (some 3)),.list (alts.map qa6) none],.tail (qbs (kids.map qbi) 0).length 5,.tail kids.length 1]:=if_neg hm
   rw[e7] at hl0
   generalize qbs (kids.map qbi) 0=ou at *
   have hdO:=qbu ou
   have hallO:=qj8 ou
   generalize qbt (kids.map qbi) 0=ids at *
   unfold fn183
   simp -implicitDefEqProofs only[qad,qaL,qae,qar,qac,qah,aOp,opd,qak,qaW,qal,qaB,qag,qaV,qba,qcb,qa8,qaj,qax,qay,qbr,qbE,qaE,leaf,qau,qbn,qaR,qaS,qao,qaw,qaI,qaU,gcE,qaX,qaf,qaF,qas,qaH,qaG,qa5,ren,renC,qbm,qcE,qbT,qb2,qbl,qa2,qaT,qaN,qbc,qcg,qcf,qbk,qbz,qaa,qbV,qbI,qaq,qcc,qbe,qav,qat,qcB,Option.map_some,Option.getD_some,List.map_cons,List.map_nil,List.flatMap_cons,List.flatMap_nil,List.length_cons,List.length_nil,List.length_append,List.length_map,List.cons_append,List.nil_append,List.append_nil,List.getElem?_cons_zero,List.getElem?_cons_succ,List.set_cons_zero,List.set_cons_succ,List.take_succ_cons,List.take_zero,List.drop_succ_cons,List.drop_zero,List.take_nil,List.drop_nil,List.all_cons,List.all_nil,List.not_mem_nil,↓reduceIte,Bool.and_true,Bool.false_eq_true,and_true,not_false_eq_true,decide_true,decide_false,and_self,Nat.le_refl,reduceCtorEq,Nat.add_zero,Nat.zero_add,Nat.reduceEqDiff,Nat.reduceAdd,Nat.reduceLT,Nat.reduceLeDiff,List.cons_ne_nil,qck,qaC,qaM,List.map_append,qa0,qfg,qbB,qaA,hl0,hdA,hdT,hdX,hdI,hdO,hallO,hlt,hw,qaK L hp,hp]
 ·have hl0:=qt5 hL op n binds kids alts outs hz (by omega) hkl ih
  unfold nA nA' at hl0
  simp only[List.map_nil,qec,qeh,List.append_nil,Int.natCast_zero] at hl0
  rw[qkL hz]
  generalize outs++qbs (kids.map qbi) outs.length=ou at *
  have hdO:=qbu ou
  have hallO:=qj8 ou
  generalize qbt (kids.map qbi) outs.length=ids at *
  rcases qix 3 1 kids.length with ⟨k1,k2⟩ | ⟨k1,k2⟩<;>rw[k1,k2] at hl0<;>unfold fn183 <;>
   simp -implicitDefEqProofs only[qad,qaL,qae,qar,qac,qah,aOp,opd,qak,qaW,qal,qaB,qag,qaV,qba,qcb,qa8,qaj,qax,qay,qbr,qbE,qaE,leaf,qau,qbn,qaR,qaS,qao,qaw,qaI,qaU,gcE,qaX,qaf,qaF,qas,qaH,qaG,qa5,ren,renC,qbm,qcE,qbT,qb2,qbl,qdZ,qa2,qaT,qaN,qbc,qcg,qcf,qbk,qbz,qaa,qbV,qbI,qaq,qcc,qbe,qav,qat,qcB,Option.map_some,Option.getD_some,List.map_cons,List.map_nil,List.flatMap_cons,List.flatMap_nil,List.length_cons,List.length_nil,List.length_append,List.length_map,List.cons_append,List.nil_append,List.append_nil,List.getElem?_cons_zero,List.getElem?_cons_succ,List.set_cons_zero,List.set_cons_succ,List.take_succ_cons,List.take_zero,List.drop_succ_cons,List.drop_zero,List.take_nil,List.drop_nil,List.all_cons,List.all_nil,List.not_mem_nil,↓reduceIte,Bool.and_true,Bool.false_eq_true,and_true,not_false_eq_true,decide_true,decide_false,and_self,Nat.le_refl,reduceCtorEq,Nat.add_zero,Nat.zero_add,Nat.reduceEqDiff,Nat.reduceAdd,Nat.reduceLT,Nat.reduceLeDiff,List.cons_ne_nil,qck,qaC,qaM,List.map_append,qa0,qfg,qbB,qaA,hl0,hdA,hdT,hdX,hdI,hdO0,hdO,hallO,hlt,hw,qaK L hp,hp]
theorem qt7 (h183:L.fns 183=some fn183) (t:CNode):qm5 L t:=by
 induction t using CNode.ind with
 | h op n binds xk kids alts ih=>exact qr9 hL h183 op n binds xk kids alts ih
theorem qqV (h183:L.fns 183=some fn183) (h154:L.fns 154=some fn154) (t:CNode) (hsz:qbA (qbi t)<2 ^ 30) (h:Heap) :
  pcall L 154 [qcQ t] h=some (.val (.list ((qcR (qbi t)).map qaO) none),h):=by
 have hp:=hL.pure
 have hw:=qt7 hL h183 t [] (by simpa using hsz)
 refine qbL hL h154 (by rw[qaa];exact qbu _) ?_ h
 have hpos:0<([]++qdu (qbi t) ([]:List CExpr).length).length:=by rw[List.nil_append,qeJ];exact qev _
 rw[qkL hpos,qr7] at hw
 unfold qcR
 rw[List.nil_append,List.length_nil] at hw
 generalize qdu (qbi t) 0=ou at *
 have hdO:=qbu ou
 obtain⟨tc,htc,hdt⟩:=qeo t
 rw[htc] at hw ⊢
 unfold fn154
 simp -implicitDefEqProofs only[qad,qae,qar,qac,qah,aOp,opd,qak,qal,qag,qay,qaS,qao,qaw,qaI,qas,qaH,qa5,ren,renC,qbm,qcE,qbT,qb2,qbl,qct,qdd,qbv,qbV,qbI,qaq,qaQ,qbe,qav,qat,Option.map_some,Option.getD_some,List.map_cons,List.map_nil,List.flatMap_cons,List.flatMap_nil,List.length_cons,List.length_nil,List.cons_append,List.nil_append,List.append_nil,List.getElem?_cons_zero,List.getElem?_cons_succ,List.take_succ_cons,List.take_zero,List.all_cons,List.all_nil,List.not_mem_nil,↓reduceIte,Bool.and_true,Bool.and_false,Bool.false_eq_true,not_false_eq_true,decide_true,and_self,Nat.le_refl,reduceCtorEq,Nat.add_zero,Nat.zero_add,Nat.reduceEqDiff,Nat.reduceLT,qfa,qdM,qgu,qdN,qer,qfn,qdL,qjq,qe1,qdh,qaD,hw,hdO,hdt,qaK L hp,hp]
end
end Go.Abs
set_option linter.unusedVariables false
set_option linter.unusedSimpArgs false
set_option maxRecDepth 100000
set_option maxHeartbeats 4000000
namespace Go.Abs
def nN (op n:Int) (kids:List CNode):CNode:=.mk op n [] [] kids []
section
variable {L:Lib} (hC:CLib2 L)
include hC
theorem qxk (op n:Int) (kids:List CNode) (h:Heap):pcall L 177 [.int .i64 op,.int .i64 n,.list (kids.map qcQ) none] h=some (.val (qcQ (nN op n kids)),h):=by
 have hL:=hC.plain
 have hp:=hL.pure
 refine qbL hL hC.f177 (qgq _) ?_ h
 have hd:=qgT kids
 unfold nN
 rw[qgV]
 unfold fn177
 simp -implicitDefEqProofs only[qad,qae,qar,qac,qah,aOp,opd,qak,qal,qag,qcK,qcX,leaf,qau,qaJ,qbn,qaR,qaS,qao,qaw,qaI,qbk,qbz,qaa,qaq,qav,qat,Option.map_some,Option.getD_some,List.map_cons,List.map_nil,List.length_cons,List.length_nil,List.cons_append,List.nil_append,List.append_nil,List.getElem?_cons_zero,List.getElem?_cons_succ,List.set_cons_zero,List.take_succ_cons,List.take_zero,List.drop_succ_cons,List.drop_zero,List.drop_nil,List.all_cons,List.all_nil,↓reduceIte,Bool.and_true,and_self,Nat.le_refl,reduceCtorEq,Nat.zero_add,Nat.reduceEqDiff,Nat.reduceAdd,Nat.reduceLeDiff,qch,qco,qcM,qds,frz,frzC,qla,qaD,hd,qfE]
theorem qt4 (t:CNode) (hsz:qbA (qbi t)<2 ^ 30) (h:Heap):pcall L 154 [qcQ t] h=some (.val (.list ((qcR (qbi t)).map qaO) none),h):=qqV hC.plain hC.f183 hC.f154 t hsz h
end
end Go.Abs
