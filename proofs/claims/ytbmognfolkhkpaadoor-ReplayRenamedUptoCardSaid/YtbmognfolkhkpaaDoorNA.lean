/-
  PARTS OF A PROOF, joined: an abstract machine for quiet code, its evaluation, and what the seat's functions answer on it. Conditions: none.
-/
import Derived.Test.YtbmognfolkhkpaaDoorW
set_option linter.unusedVariables false
set_option linter.unusedSimpArgs false
set_option maxRecDepth 100000
set_option maxHeartbeats 4000000
namespace Go.Abs
inductive CNode where
 | mk (op n:Int) (binds xk:List Int) (kids:List CNode) (alts:List CAlt)
def qcc:CNode→AVal
 | .mk op n binds xk kids alts=>.vptr [.int .i64 op,.int .i64 n,.list (binds.map qaP) none,.list (xk.map qaP) none,.list (alts.map qaM) none,.list (kids.attach.map fun k=>qcc k.1) none] 0
 termination_by t=>SizeOf.sizeOf t
 decreasing_by
  have:=List.sizeOf_lt_of_mem k.2
  simp only[CNode.mk.sizeOf_spec]
  omega
def qaY:CNode→CTree
 | .mk op n binds xk kids alts=>.mk op n binds (kids.attach.map fun k=>qaY k.1) alts
 termination_by t=>SizeOf.sizeOf t
 decreasing_by
  have:=List.sizeOf_lt_of_mem k.2
  simp only[CNode.mk.sizeOf_spec]
  omega
theorem qd0 (op n:Int) (binds xk:List Int) (kids:List CNode) (alts:List CAlt):qcc (.mk op n binds xk kids alts)=.vptr [.int .i64 op,.int .i64 n,.list (binds.map qaP) none,.list (xk.map qaP) none,.list (alts.map qaM) none,.list (kids.map qcc) none] 0:=by
 rw[qcc]
 simp
theorem qfY (op n:Int) (binds xk:List Int) (kids:List CNode) (alts:List CAlt):qaY (.mk op n binds xk kids alts)=.mk op n binds (kids.map qaY) alts:=by
 rw[qaY]
 simp
theorem CNode.ind {P:CNode→Prop} (h:∀ op n binds xk kids alts,(∀ k∈kids,P k)→P (.mk op n binds xk kids alts)):∀ t,P t
 | .mk op n binds xk kids alts=>h op n binds xk kids alts fun k hk=>CNode.ind h k
 termination_by t=>SizeOf.sizeOf t
 decreasing_by
  have:=List.sizeOf_lt_of_mem hk
  simp only[CNode.mk.sizeOf_spec]
  omega
theorem qe7 (t:CNode):qa2 (qcc t)=true:=by
 induction t using CNode.ind with
 | h op n binds xk kids alts ih =>
   rw[qd0]
   have:qaZ (kids.map qcc)=true:=by
    clear op n binds xk alts
    induction kids with
    | nil=>rfl
    | cons k ks ih'=>rw[List.map_cons,qaZ,ih k (by simp),ih' fun x hx=>ih x (by simp[hx])];rfl
   simp only[qa2,qaZ,qar,qaG,this,Bool.and_self]
theorem qfG (l:List CNode):qaZ (l.map qcc)=true:=qfa _ qe7 l
theorem qd8 (t:CNode):∃ tc,qcc t=.vptr tc 0∧qaZ tc=true:=by
 have h:=qe7 t
 cases t
 rw[qd0] at h ⊢
 exact⟨_,rfl,h⟩
def mh (outs:List CExpr):Heap:=[.box [.list (outs.map qaH) (qfP 1 outs.length)]]++qdG 5 outs.length
theorem qsc:mh []=[.box [.list [] (some none)]]:=rfl
theorem qkL {outs:List CExpr} (h:0<outs.length):mh outs=[.box [.list (outs.map qaH) (some (some 1))],.tail outs.length 5]:=by
 unfold mh
 rw[qeD h,qd2 h]
 rfl
def qmX (L:Lib) (t:CNode):Prop:=∀ outs:List CExpr,outs.length+qbR (qaY t)<2 ^ 30→call L 183 [qcc t,.ptr (some (0,0))] (mh outs)=some (.val (.int .i64 ((outs.length+qbR (qaY t)-1:Nat):Int)),mh (outs++qdU (qaY t) outs.length))
def nA (op n:Int) (binds:List Int) (kids:List CNode) (alts:List CAlt) (outs:List CExpr) (ids:List Int) (j:Nat):St :=
 ⟨kt [1,5,16,17,18] [.ptr (some (0,0)),.ptr (some (2,0)),.list (kids.map qcc) none,.int .i64 kids.length,.int .i64 j],
  [.box [.list (outs.map qaH) (some (some 1))],.tail outs.length 5,.box [.int .i64 op,.int .i64 n,.list (binds.map qaP) none,.list (ids.map qaP) (qfP 3 j),.list (alts.map qaM) none]]++qdG 1 j⟩
def nA' (op n:Int) (binds:List Int) (alts:List CAlt) (outs:List CExpr) (ids:List Int) (j:Nat):St :=
 ⟨kt [1,5] [.ptr (some (0,0)),.ptr (some (2,0))],
  [.box [.list (outs.map qaH) (some (some 1))],.tail outs.length 5,.box [.int .i64 op,.int .i64 n,.list (binds.map qaP) none,.list (ids.map qaP) (qfP 3 j),.list (alts.map qaM) none]]++qdG 1 j⟩
section
variable {L:Lib} (hL:Plain L)
include hL
theorem quz (op n:Int) (binds:List Int) (kids:List CNode) (alts:List CAlt) (outs:List CExpr) (h0:0<outs.length) (hsz:outs.length+qbd (kids.map qaY)<2 ^ 30) (hkl:kids.length<2 ^ 30) (ih:∀ k∈kids,qmX L k) :
  qcg L.pure (call L) 3 [1,5,16,17,18] [1,5] 0 qea (nA op n binds kids alts outs [] 0)=some (.normal,nA' op n binds alts (outs++qbm (kids.map qaY) outs.length) (qbn (kids.map qaY) outs.length) kids.length):=by
 have hp:=hL.pure
 have hdT:=qfG kids
 have hdX:=qaG alts
 have hC:=qgm (pure:=L.pure) (call:=call L) (b:=3) (keep:=[1,5,16,17,18]) (fk:=[1,5]) (id:=0) (body:=qea)
  (fun j=>nA op n binds kids alts (outs++qbm ((kids.map qaY).take j) outs.length) (qbn ((kids.map qaY).take j) outs.length) j) kids.length (T:=nA' op n binds alts (outs++qbm (kids.map qaY) outs.length) (qbn (kids.map qaY) outs.length) kids.length) ?_ ?_
 ·have e0:qbm ((kids.map qaY).take 0) outs.length=[]:=by rw[List.take_zero,qbm]
  have e1:qbn ((kids.map qaY).take 0) outs.length=[]:=by rw[List.take_zero,qbn]
  simp only[e0,e1,List.append_nil] at hC
  exact hC
 ·intro j hj
  obtain⟨h1,h2,h3⟩:=qbE qcc kids hkl j hj
  have hw:=ih kids[j] (List.getElem_mem hj) (outs++qbm ((kids.map qaY).take j) outs.length)
  have hlen:(outs++qbm ((kids.map qaY).take j) outs.length).length=outs.length+qbd ((kids.map qaY).take j):=by rw[List.length_append,qfc]
  have hj2:j<(kids.map qaY).length:=by simpa using hj
  have hle:=qok (kids.map qaY) (j+1)
  rw[qlb (kids.map qaY) j hj2,List.getElem_map] at hle
  have hrl:(qbn ((kids.map qaY).take j) outs.length).length=j:=by rw[qfh];simp;omega
  have hjj:j+1≤1073741824:=by omega
  rw[List.take_succ_eq_append_getElem hj2,List.getElem_map,qh1,qg2,← List.append_assoc,← hlen]
  have hw:=hw (by rw[hlen];omega)
  have hpos:0<(outs++qbm ((kids.map qaY).take j) outs.length).length:=by rw[hlen];omega
  generalize outs++qbm ((kids.map qaY).take j) outs.length=ou at *
  generalize qbn ((kids.map qaY).take j) outs.length=ids at *
  generalize kids[j]=kid at *
  have hpos2:0<(ou++qdU (qaY kid) ou.length).length:=by rw[List.length_append];omega
  rw[qkL hpos,qkL hpos2] at hw
  have hdO:=qa3 ou
  generalize ou++qdU (qaY kid) ou.length=ou2 at *
  have hdO2:=qa3 ou2
  have hall:=qet ids
  have hdI:=qar ids
  obtain⟨tc,htc,hdt⟩:=qd8 kid
  rw[htc] at hw
  rcases Nat.eq_zero_or_pos j with hz | hz
  ·have:ids=[]:=List.length_eq_zero_iff.1 (by omega)
   subst this
   have o1:qfP 3 j=some none:=by rw[hz];rfl
   have o2:qdG 1 j=[]:=by rw[hz];rfl
   have o3:j+1=1:=by omega
   unfold qea nA
   simp -implicitDefEqProofs only[qaq,qad,qa5,qae,qaf,qao,qab,qah,aOp,opd,qai,qa1,qav,qag,qaV,qbh,qbg,qaE,qaj,qaA,qaF,qbC,qaK,leaf,qaW,qbu,qdm,qaT,qaS,qac,qay,qam,qat,qaz,qaU,ren,renC,qa9,qcD,qbW,qca,qa8,qec,qbz,qbo,qa7,qbx,qbM,qby,qeX,qbS,qaa,qbw,qal,qaN,qa0,qap,qak,Option.getD_some,List.map_cons,List.map_nil,List.flatMap_cons,List.flatMap_nil,List.length_cons,List.length_nil,List.cons_append,List.nil_append,List.append_nil,List.getElem?_cons_zero,List.getElem?_cons_succ,List.set_cons_zero,List.set_cons_succ,List.take_succ_cons,List.take_zero,List.drop_succ_cons,List.drop_zero,List.take_nil,List.all_cons,List.all_nil,List.mem_cons,List.not_mem_nil,↓reduceIte,Bool.and_true,Bool.and_false,Bool.false_eq_true,and_true,and_false,or_true,or_false,not_true_eq_false,not_false_eq_true,decide_true,decide_false,and_self,Nat.le_refl,Nat.zero_le,reduceCtorEq,Nat.zero_add,Nat.reduceEqDiff,Nat.reduceAdd,Nat.reduceSub,Nat.reduceLT,Nat.reduceLeDiff,Int.toNat_natCast,Int.natCast_nonneg,List.cons_ne_nil,qau,qb3,qcm,qaO,qcU,qa6,forall_const,forall_eq_or_imp,forall_eq,qaQ,Int.cast_ofNat_Int,qee,qcX,qe9,qcY,qdt,qfD,qcW,qgV,qed,qcC,qfQ,qfk,qb0,qar,h1,h2,h3,hw,hdT,hdX,hdO,hdO2,htc,hdt,o1,o2,o3,qaJ L hp,hp]
  ·have o1:=qeD (b:=3) hz
   have o2:=qd2 (sz:=1) hz
   unfold qea nA
   simp -implicitDefEqProofs only[qaq,qad,qa5,qae,qaf,qao,qab,qah,aOp,opd,qai,qa1,qav,qag,qaV,qbh,qbg,qaE,qaj,qaA,qaF,qbC,qaK,leaf,qaW,qbu,qdm,qaT,qaS,qac,qay,qam,qat,qaz,qaU,ren,renC,qa9,qcD,qbW,qca,qa8,qec,qbz,qbo,qa7,qbx,qbM,qby,qeX,qbS,qaa,qbw,qal,qaN,qa0,qap,qak,qdK,Option.getD_some,List.map_cons,List.map_nil,List.flatMap_cons,List.flatMap_nil,List.length_cons,List.length_nil,List.length_map,List.cons_append,List.nil_append,List.append_nil,List.getElem?_cons_zero,List.getElem?_cons_succ,List.set_cons_zero,List.set_cons_succ,List.take_succ_cons,List.take_zero,List.drop_succ_cons,List.drop_zero,List.take_nil,List.all_cons,List.all_nil,List.mem_cons,List.not_mem_nil,↓reduceIte,Bool.and_true,Bool.and_false,Bool.false_eq_true,and_true,and_false,or_true,or_false,not_true_eq_false,not_false_eq_true,decide_true,decide_false,and_self,Nat.le_refl,Nat.zero_le,reduceCtorEq,Nat.zero_add,Nat.reduceEqDiff,Nat.reduceAdd,Nat.reduceSub,Nat.reduceLT,Nat.reduceLeDiff,Int.toNat_natCast,Int.natCast_nonneg,List.cons_ne_nil,qau,qb3,qcm,qaO,qcU,qa6,forall_const,forall_eq_or_imp,forall_eq,List.map_append,qaQ,qee,qcX,qe9,qcY,qdt,qfD,qcW,qgV,qed,qcC,qfQ,qfk,qb0,qar,h1,h2,h3,hw,hdT,hdX,hdO,hdO2,htc,hdt,hall,hdI,hrl,hjj,o1,o2,qaJ L hp,hp]
 ·have h0':=qbF kids.length
  have ht:(kids.map qaY).take kids.length=kids.map qaY:=List.take_of_length_le (by simp)
  rw[ht]
  generalize outs++qbm (kids.map qaY) outs.length=ou
  have hdO:=qa3 ou
  have hdI:=qar (qbn (kids.map qaY) outs.length)
  generalize qbn (kids.map qaY) outs.length=ids at *
  unfold qea nA nA'
  rcases qiL 3 1 kids.length with ⟨o1,o2⟩ | ⟨o1,o2⟩<;>simp -implicitDefEqProofs only[qad,qae,qaf,qbl,qab,qah,aOp,opd,qai,qav,qag,qbh,qbg,qaj,gcE,qaS,qac,qay,qam,qat,qaz,qaU,ren,renC,qa9,qcD,qbW,qca,qa8,qec,qaa,qbP,qbw,qal,qa0,Option.getD_some,List.map_cons,List.map_nil,List.flatMap_cons,List.flatMap_nil,List.length_cons,List.length_nil,List.cons_append,List.nil_append,List.append_nil,List.getElem?_cons_zero,List.getElem?_cons_succ,List.take_succ_cons,List.take_zero,List.take_nil,List.not_mem_nil,↓reduceIte,Bool.false_eq_true,and_true,not_false_eq_true,decide_false,and_self,Nat.le_refl,Nat.zero_add,Nat.reduceEqDiff,Nat.reduceAdd,Nat.reduceLT,Nat.reduceLeDiff,qau,qaQ,qar,h0',hdT,hdX,hdO,hdI,o1,o2]
def nHB (op n:Int) (binds:List Int) (alts:List CAlt) (outs:List CExpr) (ids:List Int) (j:Nat):Heap :=
 if j=0 then [.box [.list [] (some none)],.box [.int .i64 op,.int .i64 n,.list (binds.map qaP) none,.list [] (some none),.list (alts.map qaM) none]]
 else [.box [.list (outs.map qaH) (some (some 2))],.box [.int .i64 op,.int .i64 n,.list (binds.map qaP) none,.list (ids.map qaP) (some (some 3)),.list (alts.map qaM) none],.tail outs.length 5,.tail j 1]
def nB (op n:Int) (binds:List Int) (kids:List CNode) (alts:List CAlt) (outs:List CExpr) (ids:List Int) (j:Nat):St :=
 ⟨kt [1,5,16,17,18] [.ptr (some (0,0)),.ptr (some (1,0)),.list (kids.map qcc) none,.int .i64 kids.length,.int .i64 j],nHB op n binds alts outs ids j⟩
def nB' (op n:Int) (binds:List Int) (alts:List CAlt) (outs:List CExpr) (ids:List Int) (j:Nat):St :=
 ⟨kt [1,5] [.ptr (some (0,0)),.ptr (some (1,0))],nHB op n binds alts outs ids j⟩
theorem quA (op n:Int) (binds:List Int) (kids:List CNode) (alts:List CAlt) (hsz:qbd (kids.map qaY)<2 ^ 30) (hkl:kids.length<2 ^ 30) (ih:∀ k∈kids,qmX L k) :
  qcg L.pure (call L) 2 [1,5,16,17,18] [1,5] 0 qea (nB op n binds kids alts [] [] 0)=some (.normal,nB' op n binds alts (qbm (kids.map qaY) 0) (qbn (kids.map qaY) 0) kids.length):=by
 have hp:=hL.pure
 have hdT:=qfG kids
 have hdX:=qaG alts
 have hC:=qgm (pure:=L.pure) (call:=call L) (b:=2) (keep:=[1,5,16,17,18]) (fk:=[1,5]) (id:=0) (body:=qea)
  (fun j=>nB op n binds kids alts (qbm ((kids.map qaY).take j) 0) (qbn ((kids.map qaY).take j) 0) j) kids.length (T:=nB' op n binds alts (qbm (kids.map qaY) 0) (qbn (kids.map qaY) 0) kids.length) ?_ ?_
 ·have e0:qbm ((kids.map qaY).take 0) 0=[]:=by rw[List.take_zero,qbm]
  have e1:qbn ((kids.map qaY).take 0) 0=[]:=by rw[List.take_zero,qbn]
  simp only[e0,e1] at hC
  exact hC
 ·intro j hj
  obtain⟨h1,h2,h3⟩:=qbE qcc kids hkl j hj
  have hw:=ih kids[j] (List.getElem_mem hj) (qbm ((kids.map qaY).take j) 0)
  have hlen:(qbm ((kids.map qaY).take j) 0).length=0+qbd ((kids.map qaY).take j):=by rw[qfc];omega
  have hj2:j<(kids.map qaY).length:=by simpa using hj
  have hle:=qok (kids.map qaY) (j+1)
  rw[qlb (kids.map qaY) j hj2,List.getElem_map] at hle
  have hrl:(qbn ((kids.map qaY).take j) 0).length=j:=by rw[qfh];simp;omega
  have hjj:j+1≤1073741824:=by omega
  rw[List.take_succ_eq_append_getElem hj2,List.getElem_map,qh1,qg2,← hlen]
  have hw:=hw (by rw[hlen];omega)
  have hkp:0<qbR (qaY kids[j]):=qf1 _
  have hz0:j=0→qbm ((kids.map qaY).take j) 0=[]:=by intro h;rw[h,List.take_zero,qbm]
  have hzp:0<j→0<(qbm ((kids.map qaY).take j) 0).length:=by
   intro h
   rw[hlen]
   cases kids with
   | nil=>simp at hj
   | cons x xs =>
     cases j with
     | zero=>omega
     | succ j=>rw[List.map_cons,List.take_succ_cons,qbd];have:=qf1 (qaY x);omega
  have hll:(qdU (qaY kids[j]) (qbm ((kids.map qaY).take j) 0).length).length=qbR (qaY kids[j]):=qdN _ _
  generalize qbm ((kids.map qaY).take j) 0=ou at *
  generalize qbn ((kids.map qaY).take j) 0=ids at *
  generalize kids[j]=kid at *
  have hpos2:0<(ou++qdU (qaY kid) ou.length).length:=by rw[List.length_append];omega
  rw[qkL hpos2] at hw
  have hdO:=qa3 ou
  have hall:=qet ids
  have hdI:=qar ids
  obtain⟨tc,htc,hdt⟩:=qd8 kid
  rw[htc] at hw
  have e3:∀ a b,nHB op n binds alts a b (j+1)=[.box [.list (a.map qaH) (some (some 2))],.box [.int .i64 op,.int .i64 n,.list (binds.map qaP) none,.list (b.map qaP) (some (some 3)),.list (alts.map qaM) none],.tail a.length 5,.tail (j+1) 1]:=fun a b=>if_neg (by omega)
  rcases Nat.eq_zero_or_pos j with hz | hz
  ·have:ids=[]:=List.length_eq_zero_iff.1 (by omega)
   subst this
   have:=hz0 hz
   subst this
   rw[qsc] at hw
   have o3:j+1=1:=by omega
   have e4:nHB op n binds alts [] [] j=[.box [.list [] (some none)],.box [.int .i64 op,.int .i64 n,.list (binds.map qaP) none,.list [] (some none),.list (alts.map qaM) none]]:=if_pos hz
   generalize []++qdU (qaY kid) ([]:List CExpr).length=ou2 at *
   have hdO2:=qa3 ou2
   unfold qea nB
   rw[e3,e4]
   simp -implicitDefEqProofs only[qaq,qad,qa5,qae,qaf,qao,qab,qah,aOp,opd,qai,qa1,qav,qag,qaV,qbh,qbg,qaE,qaj,qaA,qaF,qbC,qaK,leaf,qaW,qbu,qdm,qaT,qaS,qac,qay,qam,qat,qaz,qaU,ren,renC,qa9,qcD,qbW,qca,qa8,qbz,qbo,qa7,qbx,qbM,qby,qeX,qbS,qaa,qbP,qbw,qal,qaN,qa0,qap,qak,Option.map_some,Option.getD_some,List.map_cons,List.map_nil,List.flatMap_cons,List.flatMap_nil,List.length_cons,List.length_nil,List.cons_append,List.nil_append,List.append_nil,List.getElem?_cons_zero,List.getElem?_cons_succ,List.set_cons_zero,List.set_cons_succ,List.take_succ_cons,List.take_zero,List.drop_succ_cons,List.drop_zero,List.all_cons,List.all_nil,List.mem_cons,List.not_mem_nil,↓reduceIte,Bool.and_true,Bool.and_false,Bool.false_eq_true,and_true,or_false,not_false_eq_true,decide_true,decide_false,and_self,Nat.le_refl,reduceCtorEq,Nat.add_zero,Nat.zero_add,Nat.reduceEqDiff,Nat.reduceAdd,Nat.reduceSub,Nat.reduceLT,Nat.reduceLeDiff,Int.toNat_natCast,Int.natCast_nonneg,List.cons_ne_nil,qau,qb3,qcm,qaO,qcU,qa6,forall_const,forall_eq_or_imp,forall_eq,qaQ,Int.cast_ofNat_Int,qee,qcX,qe9,qcY,qdt,qfD,qcW,qgV,qed,qcC,qb0,qar,h1,h2,h3,hw,hdT,hdX,hdO2,htc,hdt,o3,qaJ L hp,hp]
  ·rw[qkL (hzp hz)] at hw
   have e4:nHB op n binds alts ou ids j=[.box [.list (ou.map qaH) (some (some 2))],.box [.int .i64 op,.int .i64 n,.list (binds.map qaP) none,.list (ids.map qaP) (some (some 3)),.list (alts.map qaM) none],.tail ou.length 5,.tail j 1]:=if_neg (by omega)
   generalize ou++qdU (qaY kid) ou.length=ou2 at *
   have hdO2:=qa3 ou2
   unfold qea nB
   rw[e3,e4]
   simp -implicitDefEqProofs only[qaq,qad,qa5,qae,qaf,qao,qab,qah,aOp,opd,qai,qa1,qav,qag,qaV,qbh,qbg,qaE,qaj,qaA,qaF,qbC,qaK,leaf,qaW,qbu,qdm,qaT,qaS,qac,qay,qam,qat,qaz,qaU,ren,renC,qa9,qcD,qbW,qca,qa8,qec,qbz,qbo,qa7,qbx,qbM,qby,qeX,qbS,qaa,qbw,qal,qaN,qa0,qap,qak,qdK,Option.getD_some,List.map_cons,List.map_nil,List.flatMap_cons,List.flatMap_nil,List.length_cons,List.length_nil,List.length_map,List.cons_append,List.nil_append,List.append_nil,List.getElem?_cons_zero,List.getElem?_cons_succ,List.set_cons_zero,List.set_cons_succ,List.take_succ_cons,List.take_zero,List.drop_succ_cons,List.drop_zero,List.take_nil,List.all_cons,List.all_nil,List.mem_cons,List.not_mem_nil,↓reduceIte,Bool.and_true,Bool.and_false,Bool.false_eq_true,and_true,and_false,or_true,or_false,not_true_eq_false,not_false_eq_true,decide_true,decide_false,and_self,Nat.le_refl,Nat.zero_le,reduceCtorEq,Nat.zero_add,Nat.reduceEqDiff,Nat.reduceAdd,Nat.reduceSub,Nat.reduceLT,Nat.reduceLeDiff,Int.toNat_natCast,Int.natCast_nonneg,List.cons_ne_nil,qau,qb3,qcm,qaO,qcU,qa6,forall_const,forall_eq_or_imp,forall_eq,List.map_append,qaQ,qee,qcX,qe9,qcY,qdt,qfD,qcW,qgV,qed,qcC,qb0,qar,h1,h2,h3,hw,hdT,hdX,hdO,hdO2,htc,hdt,hall,hdI,hrl,hjj,qaJ L hp,hp]
 ·have h0':=qbF kids.length
  have ht:(kids.map qaY).take kids.length=kids.map qaY:=List.take_of_length_le (by simp)
  rw[ht]
  have hdO:=qa3 (qbm (kids.map qaY) 0)
  have hdI:=qar (qbn (kids.map qaY) 0)
  generalize qbm (kids.map qaY) 0=ou at *
  generalize qbn (kids.map qaY) 0=ids at *
  unfold qea nB nB' nHB
  by_cases hz:kids.length=0
  ·rw[if_pos hz]
   simp -implicitDefEqProofs only[qad,qae,qaf,qbl,qab,qah,aOp,opd,qai,qav,qag,qbh,qbg,qaj,gcE,qaS,qac,qay,qam,qat,qaz,qaU,ren,renC,qa9,qbW,qca,qa8,qaa,qbP,qal,qa0,qap,List.map_cons,List.map_nil,List.flatMap_cons,List.flatMap_nil,List.length_cons,List.length_nil,List.cons_append,List.nil_append,List.append_nil,List.take_succ_cons,List.take_nil,List.not_mem_nil,↓reduceIte,Bool.false_eq_true,and_true,not_false_eq_true,decide_false,Nat.le_refl,Nat.zero_add,Nat.reduceEqDiff,Nat.reduceAdd,Nat.reduceLT,Nat.reduceLeDiff,qau,qaQ,qar,h0',hdT,hdX]
  ·rw[if_neg hz]
   simp -implicitDefEqProofs only[qad,qae,qaf,qbl,qab,qah,aOp,opd,qai,qav,qag,qbh,qbg,qaj,gcE,qaS,qac,qay,qam,qat,qaz,qaU,ren,renC,qa9,qcD,qbW,qca,qa8,qaa,qbw,qal,qa0,Option.getD_some,List.map_cons,List.map_nil,List.flatMap_cons,List.flatMap_nil,List.length_cons,List.length_nil,List.cons_append,List.nil_append,List.append_nil,List.getElem?_cons_zero,List.getElem?_cons_succ,List.take_succ_cons,List.take_zero,List.mem_cons,List.not_mem_nil,↓reduceIte,Bool.false_eq_true,and_true,or_false,not_false_eq_true,decide_false,and_self,Nat.le_refl,Nat.zero_add,Nat.reduceEqDiff,Nat.reduceAdd,Nat.reduceLT,Nat.reduceLeDiff,qau,qaQ,qar,h0',hdT,hdX,hdO,hdI]
end
theorem ql7:∀ ks:List CTree,ks.length≤qbd ks
 | []=>by rw[qbd];simp
 | k::ks=>by rw[qbd,List.length_cons];have:=qf1 k;have:=ql7 ks;omega
section
variable {L:Lib} (hL:Plain L)
include hL
theorem qsd (h183:L.fns 183=some fn183) (op n:Int) (binds xk:List Int) (kids:List CNode) (alts:List CAlt) (ih:∀ k∈kids,qmX L k):qmX L (.mk op n binds xk kids alts):=by
 have hp:=hL.pure
 intro outs hsz
 rw[qfY,qbR] at hsz
 have hs:L.summ 183=none:=hL.summ 183 (by rw[h183];exact fun hx=>by cases hx)
 refine qd6 hs h183 ?_
 have hkl:kids.length<2 ^ 30:=by have:=ql7 (kids.map qaY);rw[List.length_map] at this;omega
 have hT:(outs++qbm (kids.map qaY) outs.length).length=outs.length+qbd (kids.map qaY):=by rw[List.length_append,qfc]
 rw[qfY]
 have hres:outs.length+qbR (.mk op n binds (kids.map qaY) alts)-1=(outs++qbm (kids.map qaY) outs.length).length:=by rw[qbR,hT];omega
 rw[hres,qdU,← List.append_assoc]
 have hdT:=qfG kids
 have hdA:=qaG alts
 have hdX:=qar xk
 have hdI:=qar (qbn (kids.map qaY) outs.length)
 have hrl:=qfh (kids.map qaY) outs.length
 rw[List.length_map] at hrl
 rw[qd0]
 have hpos2:∀ x:CExpr,0<((outs++qbm (kids.map qaY) outs.length)++[x]).length:=fun x=>by rw[List.length_append];simp
 rw[qkL (hpos2 _)]
 have hlt:(outs++qbm (kids.map qaY) outs.length).length+1≤1073741824:=by rw[hT];omega
 have hw:IntKind.i64.wrap ((((outs++qbm (kids.map qaY) outs.length).length+1:Nat):Int)-1)=(((outs++qbm (kids.map qaY) outs.length).length:Nat):Int):=by rw[qd3 (by omega) (by omega)];omega
 have hdO0:=qa3 outs
 rcases Nat.eq_zero_or_pos outs.length with hz | hz
 ·have:outs=[]:=List.length_eq_zero_iff.1 hz
  subst this
  have hl0:=quA hL op n binds kids alts (by omega) hkl ih
  unfold nB nB' at hl0
  have e4:nHB op n binds alts [] [] 0=[.box [.list [] (some none)],.box [.int .i64 op,.int .i64 n,.list (binds.map qaP) none,.list [] (some none),.list (alts.map qaM) none]]:=rfl
  rw[e4] at hl0
  simp only[Int.natCast_zero] at hl0
  rw[qsc]
  rw[List.nil_append,List.length_nil] at *
  by_cases hm:kids.length=0
  ·have:kids=[]:=List.length_eq_zero_iff.1 hm
   subst this
   have e5:qbm (([]:List CNode).map qaY) 0=[]:=by rw[List.map_nil,qbm]
   have e6:qbn (([]:List CNode).map qaY) 0=[]:=rfl
   have hw1:IntKind.i64.wrap 0=0:=rfl
   simp only[e5,e6] at hl0 hw hlt ⊢
   have e7:nHB op n binds alts [] [] ([]:List CNode).length=[.box [.list [] (some none)],.box [.int .i64 op,.int .i64 n,.list (binds.map qaP) none,.list [] (some none),.list (alts.map qaM) none]]:=rfl
   rw[e7] at hl0
   simp only[List.length_nil,Int.natCast_zero,List.map_nil] at hl0
   unfold fn183
   simp -implicitDefEqProofs only[qad,qa5,qae,qax,qab,qah,aOp,opd,qai,qa1,qan,qav,qag,qaV,qbh,qco,qbg,qaj,qaA,qaF,qbC,qbG,qaK,leaf,qaw,qbu,qaT,qaR,qas,qaB,qaI,qaL,gcE,qaS,qac,qay,qam,qat,qaz,qaU,ren,renC,qa9,qcD,qbW,qca,qa8,qbz,qbo,qa7,qbx,qbM,qcj,qba,qbs,qaa,qbP,qbw,qal,qcd,qa0,qap,qak,Option.map_some,Option.getD_some,List.map_cons,List.map_nil,List.flatMap_cons,List.flatMap_nil,List.length_cons,List.length_nil,List.cons_append,List.nil_append,List.append_nil,List.getElem?_cons_zero,List.getElem?_cons_succ,List.set_cons_zero,List.set_cons_succ,List.take_succ_cons,List.take_zero,List.drop_succ_cons,List.drop_zero,List.take_nil,List.drop_nil,List.all_cons,List.all_nil,List.not_mem_nil,↓reduceIte,Bool.and_true,Bool.false_eq_true,and_true,not_false_eq_true,decide_true,decide_false,and_self,Nat.le_refl,reduceCtorEq,Nat.add_zero,Nat.zero_add,Nat.reduceEqDiff,Nat.reduceAdd,Nat.reduceLT,Nat.reduceLeDiff,List.cons_ne_nil,qb3,qaO,qa6,qaQ,Int.cast_ofNat_Int,qfx,qbB,qar,hl0,hdA,hdX,hw,hw1,Int.natCast_zero,Int.natCast_one,Int.reduceSub,qaJ L hp,hp]
  ·have e7:nHB op n binds alts (qbm (kids.map qaY) 0) (qbn (kids.map qaY) 0) kids.length=[.box [.list ((qbm (kids.map qaY) 0).map qaH) (some (some 2))],.box [.int .i64 op,.int .i64 n,.list (binds.map qaP) none,.list ((qbn (kids.map qaY) 0).map qaP) (some (some 3)),.list (alts.map qaM) none],.tail (qbm (kids.map qaY) 0).length 5,.tail kids.length 1]:=if_neg hm
   rw[e7] at hl0
   generalize qbm (kids.map qaY) 0=ou at *
   have hdO:=qa3 ou
   have hallO:=qkd ou
   generalize qbn (kids.map qaY) 0=ids at *
   unfold fn183
   simp -implicitDefEqProofs only[qad,qa5,qae,qax,qab,qah,aOp,opd,qai,qa1,qan,qav,qag,qaV,qbh,qco,qbg,qaj,qaA,qaF,qbC,qbG,qaK,leaf,qaw,qbu,qaT,qaR,qas,qaB,qaI,qaL,gcE,qaS,qac,qay,qam,qat,qaz,qaU,ren,renC,qa9,qcD,qbW,qca,qa8,qbz,qbo,qa7,qbx,qbM,qcj,qba,qbs,qaa,qbP,qbw,qal,qcd,qa0,qap,qak,qdK,Option.map_some,Option.getD_some,List.map_cons,List.map_nil,List.flatMap_cons,List.flatMap_nil,List.length_cons,List.length_nil,List.length_append,List.length_map,List.cons_append,List.nil_append,List.append_nil,List.getElem?_cons_zero,List.getElem?_cons_succ,List.set_cons_zero,List.set_cons_succ,List.take_succ_cons,List.take_zero,List.drop_succ_cons,List.drop_zero,List.take_nil,List.drop_nil,List.all_cons,List.all_nil,List.not_mem_nil,↓reduceIte,Bool.and_true,Bool.false_eq_true,and_true,not_false_eq_true,decide_true,decide_false,and_self,Nat.le_refl,reduceCtorEq,Nat.add_zero,Nat.zero_add,Nat.reduceEqDiff,Nat.reduceAdd,Nat.reduceLT,Nat.reduceLeDiff,List.cons_ne_nil,qb3,qaO,qa6,List.map_append,qaQ,qfx,qbB,qar,hl0,hdA,hdT,hdX,hdI,hdO,hallO,hlt,hw,qaJ L hp,hp]
 ·have hl0:=quz hL op n binds kids alts outs hz (by omega) hkl ih
  unfold nA nA' at hl0
  simp only[List.map_nil,qem,qeq,List.append_nil,Int.natCast_zero] at hl0
  rw[qkL hz]
  generalize outs++qbm (kids.map qaY) outs.length=ou at *
  have hdO:=qa3 ou
  have hallO:=qkd ou
  generalize qbn (kids.map qaY) outs.length=ids at *
  rcases qiL 3 1 kids.length with ⟨k1,k2⟩ | ⟨k1,k2⟩<;>rw[k1,k2] at hl0<;>unfold fn183 <;>
   simp -implicitDefEqProofs only[qad,qa5,qae,qax,qab,qah,aOp,opd,qai,qa1,qan,qav,qag,qaV,qbh,qco,qbg,qaj,qaA,qaF,qbC,qbG,qaK,leaf,qaw,qbu,qaT,qaR,qas,qaB,qaI,qaL,gcE,qaS,qac,qay,qam,qat,qaz,qaU,ren,renC,qa9,qcD,qbW,qca,qa8,qec,qbz,qbo,qa7,qbx,qbM,qcj,qba,qbs,qaa,qbP,qbw,qal,qcd,qa0,qap,qak,qdK,Option.map_some,Option.getD_some,List.map_cons,List.map_nil,List.flatMap_cons,List.flatMap_nil,List.length_cons,List.length_nil,List.length_append,List.length_map,List.cons_append,List.nil_append,List.append_nil,List.getElem?_cons_zero,List.getElem?_cons_succ,List.set_cons_zero,List.set_cons_succ,List.take_succ_cons,List.take_zero,List.drop_succ_cons,List.drop_zero,List.take_nil,List.drop_nil,List.all_cons,List.all_nil,List.not_mem_nil,↓reduceIte,Bool.and_true,Bool.false_eq_true,and_true,not_false_eq_true,decide_true,decide_false,and_self,Nat.le_refl,reduceCtorEq,Nat.add_zero,Nat.zero_add,Nat.reduceEqDiff,Nat.reduceAdd,Nat.reduceLT,Nat.reduceLeDiff,List.cons_ne_nil,qb3,qaO,qa6,List.map_append,qaQ,qfx,qbB,qar,hl0,hdA,hdT,hdX,hdI,hdO0,hdO,hallO,hlt,hw,qaJ L hp,hp]
theorem quB (h183:L.fns 183=some fn183) (t:CNode):qmX L t:=by
 induction t using CNode.ind with
 | h op n binds xk kids alts ih=>exact qsd hL h183 op n binds xk kids alts ih
theorem qqR (h183:L.fns 183=some fn183) (h154:L.fns 154=some fn154) (t:CNode) (hsz:qbR (qaY t)<2 ^ 30) (h:Heap) :
  pcall L 154 [qcc t] h=some (.val (.list ((qbU (qaY t)).map qaH) none),h):=by
 have hp:=hL.pure
 have hw:=quB hL h183 t [] (by simpa using hsz)
 refine qbH hL h154 (by rw[qaa];exact qa3 _) ?_ h
 have hpos:0<([]++qdU (qaY t) ([]:List CExpr).length).length:=by rw[List.nil_append,qdN];exact qf1 _
 rw[qkL hpos,qsc] at hw
 unfold qbU
 rw[List.nil_append,List.length_nil] at hw
 generalize qdU (qaY t) 0=ou at *
 have hdO:=qa3 ou
 obtain⟨tc,htc,hdt⟩:=qd8 t
 rw[htc] at hw ⊢
 unfold fn154
 simp -implicitDefEqProofs only[qad,qae,qax,qab,qah,aOp,opd,qai,qan,qag,qaF,qaR,qas,qaB,qaI,qam,qat,qaU,ren,renC,qa9,qcD,qbW,qca,qa8,qbZ,qeX,qbS,qbP,qbw,qal,qaN,qa0,qap,qak,Option.map_some,Option.getD_some,List.map_cons,List.map_nil,List.flatMap_cons,List.flatMap_nil,List.length_cons,List.length_nil,List.cons_append,List.nil_append,List.append_nil,List.getElem?_cons_zero,List.getElem?_cons_succ,List.take_succ_cons,List.take_zero,List.all_cons,List.all_nil,List.not_mem_nil,↓reduceIte,Bool.and_true,Bool.and_false,Bool.false_eq_true,not_false_eq_true,decide_true,and_self,Nat.le_refl,reduceCtorEq,Nat.add_zero,Nat.zero_add,Nat.reduceEqDiff,Nat.reduceLT,qee,qcX,qe9,qcY,qdt,qfD,qcW,qgV,qed,qcC,qaD,hw,hdO,hdt,qaJ L hp,hp]
end
def nN (op n:Int) (kids:List CNode):CNode:=.mk op n [] [] kids []
def nB_ (op:Int) (binds:List Int) (kids:List CNode):CNode:=.mk op 0 binds [] kids []
theorem qq2 (t:CNode):wipeR (qcc t)=qcc t:=by cases t;rw[qd0];rfl
theorem qoz (t:CNode):acells (qcc t)=[qcc t]:=by cases t;rw[qd0];rfl
section
variable {L:Lib} (hC:CLib2 L)
include hC
theorem qyy (op n:Int) (kids:List CNode) (h:Heap):pcall L 177 [.int .i64 op,.int .i64 n,.list (kids.map qcc) none] h=some (.val (qcc (nN op n kids)),h):=by
 have hL:=hC.plain
 have hp:=hL.pure
 refine qbH hL hC.f177 (qe7 _) ?_ h
 have hd:=qfG kids
 unfold nN
 rw[qd0]
 unfold fn177
 simp -implicitDefEqProofs only[qad,qae,qax,qab,qah,aOp,opd,qai,qan,qag,qeA,qfb,leaf,qaw,qaW,qbu,qaT,qaR,qas,qaB,qaI,qba,qbs,qaa,qal,qap,qak,Option.map_some,Option.getD_some,List.map_cons,List.map_nil,List.length_cons,List.length_nil,List.cons_append,List.nil_append,List.append_nil,List.getElem?_cons_zero,List.getElem?_cons_succ,List.set_cons_zero,List.take_succ_cons,List.take_zero,List.drop_succ_cons,List.drop_zero,List.drop_nil,List.all_cons,List.all_nil,↓reduceIte,Bool.and_true,and_self,Nat.le_refl,reduceCtorEq,Nat.zero_add,Nat.reduceEqDiff,Nat.reduceAdd,Nat.reduceLeDiff,qb6,qck,qcJ,qdp,frz,frzC,qjV,qaD,hd,qdE]
theorem qyx (op:Int) (binds:List Int) (kids:List CNode) (h:Heap):pcall L 161 [.int .i64 op,.list (binds.map qaP) none,.list (kids.map qcc) none] h=some (.val (qcc (nB_ op binds kids)),h):=by
 have hL:=hC.plain
 have hp:=hL.pure
 refine qbH hL hC.f161 (qe7 _) ?_ h
 have hd:=qfG kids
 unfold nB_
 rw[qd0]
 unfold fn161
 simp -implicitDefEqProofs only[qad,qae,qax,qab,qah,aOp,opd,qai,qan,qag,qeA,qfb,leaf,qaw,qaW,qbu,qaT,qaR,qas,qaB,qaI,qba,qbs,qaa,qal,qap,qak,Option.map_some,Option.getD_some,List.map_cons,List.map_nil,List.length_cons,List.length_nil,List.cons_append,List.nil_append,List.append_nil,List.getElem?_cons_zero,List.getElem?_cons_succ,List.set_cons_zero,List.take_succ_cons,List.take_zero,List.drop_succ_cons,List.drop_zero,List.drop_nil,List.all_cons,List.all_nil,↓reduceIte,Bool.and_true,and_self,Nat.le_refl,reduceCtorEq,Nat.zero_add,Nat.reduceEqDiff,Nat.reduceAdd,Nat.reduceLeDiff,qb6,qck,qcJ,qdp,frz,frzC,qjV,qaD,qar,hd,qdE]
theorem quy (t:CNode) (hsz:qbR (qaY t)<2 ^ 30) (h:Heap):pcall L 154 [qcc t] h=some (.val (.list ((qbU (qaY t)).map qaH) none),h):=qqR hC.plain hC.f183 hC.f154 t hsz h
end
end Go.Abs
