/-
  PARTS OF A PROOF, joined: an abstract machine for quiet code, its evaluation, and what the seat's functions answer on it. Conditions: none.
-/
import Derived.Test.YtbmognfolkhkpaaDoorHA
import Derived.Test.YtbmognfolkhkpaaDoorC
set_option linter.unusedVariables false
set_option linter.unusedSimpArgs false
set_option maxRecDepth 100000
set_option maxHeartbeats 4000000
namespace Go.Abs
def tOp:CTree→Int | .mk op _ _ _ _=>op
def tN:CTree→Int | .mk _ n _ _ _=>n
def qgc:CTree→List Int | .mk _ _ b _ _=>b
def qx5:CTree→List CTree | .mk _ _ _ k _=>k
def qx4:CTree→List CAlt | .mk _ _ _ _ a=>a
def qjD (t:CTree):Bool:=tOp t==1 || (tOp t==8 && (decide (tN t≤4) || tN t==9))
def qrs (_:Nat) (k:Int) (a:CAlt):Except Bool Int:=if a.tag = -1 then .error true else if a.tag≤1 then (if a.binds=[] then .ok (k+1) else .error false) else .ok k
def qw1 (as:List CAlt):Bool:=match qcu qrs as 0 0 with | .ok k=>k==2 | .error b=>b
def qhH (ks:List CTree):CTree:=ks.getD 0 .none
def qnL (ks:List CTree):CTree:=ks.getD 1 .none
def qm3 (ks:List CTree):Bool:=qjD (qhH ks) && (decide (ks.length=1) || qjD (qnL ks))
def qiY (n:Int) (ks:List CTree):Nat :=
 if n=7 then 3 else if n=8∨n=11 then 10 else if n=10 then 18 else if n=9 then 2
 else if n=3∨n=4 then (if qm3 ks=true∧tOp (qnL ks)=1∧tN (qnL ks)≠0 then 0 else 2)
 else if qm3 ks=true then 0 else 2
def qtk (ks:List CTree) (as:List CAlt):Bool:=(tOp (qhH ks)==8 && (tN (qhH ks)==5 || tN (qhH ks)==6)) && qw1 as
def qgE (op n:Int) (ks:List CTree) (as:List CAlt):Nat :=
 if op=17 then 2 else if op=8 then qiY n ks
 else if op=3 then (if tOp (qhH ks)≠2∨(qgc (qhH ks)).length+1≠ks.length then 63 else 0)
 else if op=7 then (if qtk ks as=true then 0 else 2)
 else if op=10∨op=11 then (if tOp (qhH ks)≠9∨(op=10∧qoI (qgc (qhH ks)) n=false) then 2 else 0)
 else if op=12 then 6 else if op=13 then 63 else 0
def quw (op n:Int) (ks:List CTree):Prop :=
 ((op=8∨op=3∨op=7∨op=10∨op=11)→0<ks.length)∧(op=8→¬ (n=7∨n=9)→1<ks.length)
section
variable {L:Lib} (hC:CLib2 L)
include hC
theorem qoF (h243:L.fns 243=some fn243) (t:CTree) (h:Heap):pcall L 243 [qa1 t] h=some (.val (.bool (qjD t)),h):=by
 have hL:=hC.plain
 refine qbL hL h243 rfl ?_ h
 obtain⟨op,n,binds,kids,alts⟩:=t
 unfold qjD tOp tN
 rw[qbJ]
 dsimp only
 cases h1:op==1 with
 | true=>unfold fn243;simp -implicitDefEqProofs only[qad,qae,qar,qac,qap,qah,aOp,opd,qak,qal,qag,qba,qa8,qaj,qax,qay,qaE,qaS,qao,qaw,qaI,qa7,qde,Option.getD_some,List.getElem?_cons_zero,↓reduceIte,Bool.true_or,Bool.false_eq_true,reduceCtorEq,Nat.add_zero,Nat.reduceEqDiff,qaD,h1]
 | false =>
   cases h2:op==8 with
   | false=>unfold fn243;simp -implicitDefEqProofs only[qad,qae,qar,qac,qap,qah,aOp,opd,qak,qal,qag,qba,qa8,qaj,qax,qay,qaE,qaS,qao,qaw,qaI,qa7,qbN,beq_self_eq_true,Option.getD_some,List.getElem?_cons_zero,↓reduceIte,Bool.false_and,Bool.or_false,Bool.false_eq_true,reduceCtorEq,Nat.add_zero,Nat.reduceEqDiff,qaD,h1,h2]
   | true =>
     by_cases h3:n≤4
     ·unfold fn243;simp -implicitDefEqProofs only[qad,qae,qar,qac,qap,qah,aOp,opd,qak,qal,qag,qba,qa8,qaj,qax,qay,qaE,qaS,qao,qaw,qaI,qa7,qde,beq_self_eq_true,Option.getD_some,List.getElem?_cons_zero,List.getElem?_cons_succ,↓reduceIte,Bool.and_true,Bool.or_true,Bool.true_or,Bool.false_eq_true,decide_true,reduceCtorEq,Nat.add_zero,Nat.zero_add,Nat.reduceEqDiff,qaD,h1,h2,h3]
     ·cases h4:n==9<;>unfold fn243<;>simp -implicitDefEqProofs only[qad,qae,qar,qac,qap,qah,aOp,opd,qak,qal,qag,qba,qa8,qaj,qax,qay,qaE,qaS,qao,qaw,qaI,qa7,beq_self_eq_true,Option.getD_some,List.getElem?_cons_zero,List.getElem?_cons_succ,↓reduceIte,Bool.and_true,Bool.and_false,Bool.or_true,Bool.or_false,Bool.false_eq_true,decide_false,reduceCtorEq,Nat.add_zero,Nat.zero_add,Nat.reduceEqDiff,qaD,h1,h2,h3,h4]
theorem qxc (h211:L.fns 211=some fn211) (l:List Int) (hl:l.length<2 ^ 30) (n:Int) (h:Heap):pcall L 211 [.list (l.map qa4) none,.int .i64 n] h=some (.val (.bool (qoI l n)),h):=by
 have hL:=hC.plain
 have hp:=hL.pure
 have hloop:qb7 L.pure (call L) 0 [1,7,8,9] [4] 0 qh8 ⟨kt [1,7,8,9] [.int .i64 n,.list (l.map qa4) none,.int .i64 l.length,.int .i64 ((0:Nat):Int)],[]⟩=some (if qoI l n=true then (.ret,⟨kt [4] [.bool true],[]⟩) else (.normal,⟨kt [4] [.junk],[]⟩)):=by
  refine qft l (fun x=>x==n) (fun i=>⟨kt [1,7,8,9] [.int .i64 n,.list (l.map qa4) none,.int .i64 l.length,.int .i64 i],[]⟩) _ _ ?_ ?_ ?_
  ·intro i hi hq
   obtain⟨h1,h2,h3⟩:=qbF qa4 l hl i hi
   generalize l[i]=a at *
   unfold qh8
   simp -implicitDefEqProofs only[qam,qad,qae,qab,qai,qac,qah,aOp,opd,qak,qaB,qag,qba,qa8,qan,qaj,qay,qaJ,qaX,qaf,qaF,qas,qaG,qa5,ren,renC,qbb,qbT,qb2,qaa,qaq,Option.getD_none,List.map_cons,List.map_nil,List.flatMap_cons,List.flatMap_nil,List.length_cons,List.length_nil,List.append_nil,List.getElem?_nil,List.getElem?_cons_zero,List.take_nil,↓reduceIte,Bool.false_eq_true,decide_true,decide_false,Nat.le_refl,Nat.zero_add,Nat.reduceEqDiff,Int.toNat_natCast,Int.natCast_nonneg,qaz,qa0,qbM,qaA,h1,h2,h3,hq]
  ·intro i hi hq
   obtain⟨h1,h2,h3⟩:=qbF qa4 l hl i hi
   generalize l[i]=a at *
   unfold qh8
   simp -implicitDefEqProofs only[qam,qad,qae,qab,qai,qar,qac,qah,aOp,opd,qak,qaB,qag,qba,qa8,qan,qaj,qay,qaJ,gcE,qaX,qaf,qaF,qas,qaG,qa5,ren,renC,qbb,qbT,qb2,qbR,Option.getD_none,List.map_cons,List.map_nil,List.flatMap_cons,List.flatMap_nil,List.length_cons,List.length_nil,List.append_nil,List.getElem?_nil,List.getElem?_cons_zero,List.take_nil,↓reduceIte,Bool.false_eq_true,decide_true,decide_false,Nat.le_refl,Nat.zero_add,Nat.reduceEqDiff,Int.toNat_natCast,Int.natCast_nonneg,qaz,qa0,qbM,h1,h2,h3,hq]
  ·have h0:=qbG l.length
   unfold qh8
   simp -implicitDefEqProofs only[qad,qae,qab,qbj,qac,qah,aOp,opd,qak,qaB,qag,qba,qa8,qaj,gcE,qaX,qaf,qaF,qas,qaG,qa5,ren,renC,qbb,qbT,qb2,qbS,Option.getD_none,List.map_cons,List.map_nil,List.flatMap_cons,List.flatMap_nil,List.length_nil,List.append_nil,List.getElem?_nil,List.take_nil,↓reduceIte,Bool.false_eq_true,decide_false,Nat.le_refl,Nat.reduceEqDiff,qaz,qa0,h0]
 simp only[Int.natCast_zero] at hloop
 refine qbL hL h211 rfl ?_ h
 unfold fn211
 cases hq:qoI l n<;>simp only[hq] at hloop<;>simp -implicitDefEqProofs only[qad,qae,qar,qac,qah,aOp,opd,qak,qal,qaB,qag,qcb,qaS,qao,qaw,qaI,qaU,qaX,qaf,qaF,qas,qaG,qa5,ren,renC,qbb,qbT,qb2,qa7,qaa,qaq,Option.getD_some,Option.getD_none,List.map_cons,List.map_nil,List.flatMap_cons,List.flatMap_nil,List.length_nil,List.length_map,List.append_nil,List.getElem?_nil,List.getElem?_cons_zero,List.getElem?_cons_succ,List.take_nil,↓reduceIte,Bool.false_eq_true,decide_false,Nat.le_refl,reduceCtorEq,Nat.reduceEqDiff,qaD,qaA,hloop]
theorem quX (h210:L.fns 210=some fn210) (op n:Int) (binds:List Int) (ks:List CTree) (as:List CAlt) (hk:0<ks.length) (ha:as.length<2 ^ 30) (h:Heap) :
  pcall L 210 [qa1 (.mk op n binds ks as)] h=some (.val (.bool (qtk ks as)),h):=by
 have hL:=hC.plain
 have hp:=hL.pure
 refine qbL hL h210 rfl ?_ h
 rw[qbJ]
 have hdA:=qaP as
 have hloop:=qcY (pure:=L.pure) (call:=call L) (b:=0) (keep:=[4,35,36,37]) (fk:=[2,4]) (id:=0) (body:=qfU) as qrs
  (fun k i=>⟨kt [4,35,36,37] [.int .i64 k,.list (as.map qa6) none,.int .i64 as.length,.int .i64 (i:Int)],[]⟩) (fun k=>⟨kt [2,4] [.junk,.int .i64 k],[]⟩)
  (fun b s=>s=⟨kt [2,4] [.bool b,.junk],[]⟩∨∃ k,s=⟨kt [2,4] [.bool b,.int .i64 k],[]⟩) (fun k i=>0≤k∧k≤i) 0 (by omega) ?_ ?_ ?_
 ·obtain⟨g1,g2⟩:=hloop
  unfold qtk qhH
  obtain⟨k,ks',rfl⟩:∃ k ks',ks=k::ks':=by
   cases ks with
   | nil=>simp at hk
   | cons k ks'=>exact⟨k,ks',rfl⟩
  obtain⟨kop,kn,kb,kk,ka⟩:=k
  have hget:((CTree.mk kop kn kb kk ka::ks').getD 0 .none)=.mk kop kn kb kk ka:=rfl
  rw[hget]
  unfold tOp tN
  dsimp only
  have hg:(qa1 (CTree.mk kop kn kb kk ka)::ks'.map qa1)[0]? = some (qa1 (CTree.mk kop kn kb kk ka)):=rfl
  rw[qbJ] at hg
  cases e8:kop==8 with
  | false =>
    have e8':(kop != 8)=true:=by simpa[bne] using e8
    unfold fn210
    simp -implicitDefEqProofs only[qad,qae,qab,qar,qac,qap,qah,aOp,opd,qak,qal,qag,qba,qa8,qan,qaj,qax,qay,qaE,qbg,qaS,qao,qaw,qaI,qa7,qde,Option.getD_some,List.map_cons,List.length_cons,List.length_nil,List.getElem?_cons_zero,List.getElem?_cons_succ,↓reduceIte,Bool.false_and,Bool.false_eq_true,reduceCtorEq,Nat.add_zero,Nat.zero_add,Nat.reduceEqDiff,Int.reduceToNat,qaD,qbJ,Int.le_refl,hg,e8,e8',hdA]
  | true =>
    have e8':(kop != 8)=false:=by simpa[bne] using e8
    by_cases hn:kn=5∨kn=6
    ·have hcn:(kn==5 || kn==6)=true:=by simpa using hn
     rw[hcn]
     have e5:∀ b,(kn != 5)=b→(b=true→(kn != 6)=false):=by
      intro b hb hb2
      subst hb2
      rcases hn with h | h<;>subst h<;>first | rfl | (simp at hb)
     unfold qw1
     simp only[Int.natCast_zero] at g1 g2
     cases hq:qcu qrs as 0 0 with
     | ok kk2 =>
       obtain⟨_,hl⟩:=g1 kk2 hq
       cases h5:kn != 5 with
       | false=>unfold fn210;simp -implicitDefEqProofs only[qam,qad,qae,qab,qar,qac,qap,qah,aOp,opd,qak,qal,qaB,qag,qba,qcb,qa8,qan,qaj,qax,qay,qaE,qbg,qaS,qao,qaw,qaI,qaU,qaX,qaf,qaF,qas,qaG,qa5,ren,renC,qbb,qbT,qb2,qa7,qaa,qaq,qbN,beq_self_eq_true,Option.getD_some,Option.getD_none,List.map_cons,List.map_nil,List.flatMap_cons,List.flatMap_nil,List.length_cons,List.length_nil,List.length_map,List.append_nil,List.getElem?_nil,List.getElem?_cons_zero,List.getElem?_cons_succ,List.take_nil,↓reduceIte,Bool.and_true,Bool.true_and,Bool.false_eq_true,decide_false,Nat.le_refl,reduceCtorEq,Nat.add_zero,Nat.zero_add,Nat.reduceEqDiff,Int.reduceToNat,qaD,qbJ,Int.le_refl,hg,e8',h5,hl,hdA]
       | true=>have h6:=e5 _ h5 rfl;unfold fn210;simp -implicitDefEqProofs only[qam,qad,qae,qab,qar,qac,qap,qah,aOp,opd,qak,qal,qaB,qag,qba,qcb,qa8,qan,qaj,qax,qay,qaE,qbg,qaS,qao,qaw,qaI,qaU,qaX,qaf,qaF,qas,qaG,qa5,ren,renC,qbb,qbT,qb2,qa7,qaa,qaq,beq_self_eq_true,Option.getD_some,Option.getD_none,List.map_cons,List.map_nil,List.flatMap_cons,List.flatMap_nil,List.length_cons,List.length_nil,List.length_map,List.append_nil,List.getElem?_nil,List.getElem?_cons_zero,List.getElem?_cons_succ,List.take_nil,↓reduceIte,Bool.and_true,Bool.true_and,Bool.false_eq_true,decide_false,Nat.le_refl,reduceCtorEq,Nat.add_zero,Nat.zero_add,Nat.reduceEqDiff,Int.reduceToNat,qaD,qbJ,Int.le_refl,hg,e8',h5,h6,hl,hdA]
     | error bb =>
       obtain⟨R,hR,hl⟩:=g2 bb hq
       rcases hR with rfl | ⟨k,rfl⟩
       ·cases h5:kn != 5 with
        | false=>unfold fn210;simp -implicitDefEqProofs only[qam,qad,qae,qab,qac,qap,qah,aOp,opd,qak,qal,qaB,qag,qba,qcb,qa8,qan,qaj,qax,qay,qaE,qbg,qaS,qao,qaw,qaI,qaU,qaX,qaf,qaF,qas,qaG,qa5,ren,renC,qbb,qbT,qb2,qa7,qaa,qaq,qbN,beq_self_eq_true,Option.getD_some,Option.getD_none,List.map_cons,List.map_nil,List.flatMap_cons,List.flatMap_nil,List.length_cons,List.length_nil,List.length_map,List.append_nil,List.getElem?_nil,List.getElem?_cons_zero,List.getElem?_cons_succ,List.take_nil,↓reduceIte,Bool.and_true,Bool.true_and,Bool.false_eq_true,decide_false,Nat.le_refl,reduceCtorEq,Nat.add_zero,Nat.zero_add,Nat.reduceEqDiff,Int.reduceToNat,qaD,qbJ,Int.le_refl,hg,e8',h5,hl,hdA]
        | true=>have h6:=e5 _ h5 rfl;unfold fn210;simp -implicitDefEqProofs only[qam,qad,qae,qab,qac,qap,qah,aOp,opd,qak,qal,qaB,qag,qba,qcb,qa8,qan,qaj,qax,qay,qaE,qbg,qaS,qao,qaw,qaI,qaU,qaX,qaf,qaF,qas,qaG,qa5,ren,renC,qbb,qbT,qb2,qa7,qaa,qaq,beq_self_eq_true,Option.getD_some,Option.getD_none,List.map_cons,List.map_nil,List.flatMap_cons,List.flatMap_nil,List.length_cons,List.length_nil,List.length_map,List.append_nil,List.getElem?_nil,List.getElem?_cons_zero,List.getElem?_cons_succ,List.take_nil,↓reduceIte,Bool.and_true,Bool.true_and,Bool.false_eq_true,decide_false,Nat.le_refl,reduceCtorEq,Nat.add_zero,Nat.zero_add,Nat.reduceEqDiff,Int.reduceToNat,qaD,qbJ,Int.le_refl,hg,e8',h5,h6,hl,hdA]
       ·cases h5:kn != 5 with
        | false=>unfold fn210;simp -implicitDefEqProofs only[qam,qad,qae,qab,qac,qap,qah,aOp,opd,qak,qal,qaB,qag,qba,qcb,qa8,qan,qaj,qax,qay,qaE,qbg,qaS,qao,qaw,qaI,qaU,qaX,qaf,qaF,qas,qaG,qa5,ren,renC,qbb,qbT,qb2,qa7,qaa,qaq,qbN,beq_self_eq_true,Option.getD_some,Option.getD_none,List.map_cons,List.map_nil,List.flatMap_cons,List.flatMap_nil,List.length_cons,List.length_nil,List.length_map,List.append_nil,List.getElem?_nil,List.getElem?_cons_zero,List.getElem?_cons_succ,List.take_nil,↓reduceIte,Bool.and_true,Bool.true_and,Bool.false_eq_true,decide_false,Nat.le_refl,reduceCtorEq,Nat.add_zero,Nat.zero_add,Nat.reduceEqDiff,Int.reduceToNat,qaD,qbJ,Int.le_refl,hg,e8',h5,hl,hdA]
        | true=>have h6:=e5 _ h5 rfl;unfold fn210;simp -implicitDefEqProofs only[qam,qad,qae,qab,qac,qap,qah,aOp,opd,qak,qal,qaB,qag,qba,qcb,qa8,qan,qaj,qax,qay,qaE,qbg,qaS,qao,qaw,qaI,qaU,qaX,qaf,qaF,qas,qaG,qa5,ren,renC,qbb,qbT,qb2,qa7,qaa,qaq,beq_self_eq_true,Option.getD_some,Option.getD_none,List.map_cons,List.map_nil,List.flatMap_cons,List.flatMap_nil,List.length_cons,List.length_nil,List.length_map,List.append_nil,List.getElem?_nil,List.getElem?_cons_zero,List.getElem?_cons_succ,List.take_nil,↓reduceIte,Bool.and_true,Bool.true_and,Bool.false_eq_true,decide_false,Nat.le_refl,reduceCtorEq,Nat.add_zero,Nat.zero_add,Nat.reduceEqDiff,Int.reduceToNat,qaD,qbJ,Int.le_refl,hg,e8',h5,h6,hl,hdA]
    ·have e5:(kn != 5)=true:=by simp;omega
     have e6:(kn != 6)=true:=by simp;omega
     have hcn:(kn==5 || kn==6)=false:=by simp;omega
     rw[hcn]
     unfold fn210
     simp -implicitDefEqProofs only[qad,qae,qab,qar,qac,qap,qah,aOp,opd,qak,qal,qag,qba,qa8,qan,qaj,qax,qay,qaE,qbg,qaS,qao,qaw,qaI,qa7,beq_self_eq_true,Option.getD_some,List.map_cons,List.length_cons,List.length_nil,List.getElem?_cons_zero,List.getElem?_cons_succ,↓reduceIte,Bool.and_false,Bool.false_and,Bool.false_eq_true,reduceCtorEq,Nat.add_zero,Nat.zero_add,Nat.reduceEqDiff,Int.reduceToNat,qaD,qbJ,Int.le_refl,hg,e8',e5,e6,hdA]
 ·intro i hi k k' hk hq
  obtain⟨h1,h2,h3⟩:=qbF qa6 as ha i hi
  have w:IntKind.i64.wrap (k+1)=k+1:=by rw[qc5 (by omega) (by omega)]
  generalize as[i]=a at *
  unfold qrs at hq
  split at hq
  ·cases hq
  ·rename_i t1
   have e1:(a.tag == -1)=false:=by simpa using t1
   split at hq
   ·rename_i t2
    split at hq
    ·rename_i t3
     injection hq with hq
     subst hq
     refine⟨?_,by omega⟩
     unfold qfU
     simp -implicitDefEqProofs only[qam,qad,qae,qab,qai,qac,qap,qah,aOp,opd,qak,qaW,qaB,qag,qaV,qba,qcb,qa8,qan,qaj,qax,qay,qbr,qbE,qaE,leaf,qau,qaR,qaX,qaf,qaF,qas,qaG,qa5,ren,renC,qbT,qb2,qaa,qaq,beq_self_eq_true,Option.map_some,List.map_cons,List.map_nil,List.flatMap_cons,List.flatMap_nil,List.length_cons,List.length_nil,List.nil_append,List.append_nil,List.getElem?_cons_zero,List.getElem?_cons_succ,List.set_cons_zero,List.take_succ_cons,List.take_zero,List.drop_succ_cons,List.drop_zero,List.take_nil,List.drop_nil,List.all_cons,List.all_nil,↓reduceIte,Bool.and_true,Bool.false_eq_true,decide_true,decide_false,and_self,Nat.le_refl,Nat.zero_le,Nat.add_zero,Nat.zero_add,Nat.reduceEqDiff,Nat.reduceAdd,Int.toNat_natCast,Int.natCast_nonneg,qaz,Int.reduceNeg,qa0,Int.cast_ofNat_Int,qbK,qaP,h1,h2,h3,e1,t2,t3,w]
    ·cases hq
   ·rename_i t2
    injection hq with hq
    subst hq
    refine⟨?_,by omega⟩
    unfold qfU
    simp -implicitDefEqProofs only[qam,qad,qae,qab,qai,qac,qap,qah,aOp,opd,qak,qaW,qaB,qag,qaV,qba,qa8,qan,qaj,qax,qay,qbr,qbE,qaE,leaf,qau,qaR,qaX,qaf,qaF,qas,qaG,qa5,ren,renC,qbT,qb2,qaa,qaq,qbN,Option.map_some,List.map_cons,List.map_nil,List.flatMap_cons,List.flatMap_nil,List.length_cons,List.length_nil,List.nil_append,List.append_nil,List.getElem?_cons_zero,List.set_cons_zero,List.take_succ_cons,List.take_zero,List.drop_succ_cons,List.drop_zero,List.take_nil,List.drop_nil,List.all_cons,List.all_nil,↓reduceIte,Bool.and_true,Bool.false_eq_true,decide_true,decide_false,and_self,Nat.le_refl,Nat.zero_le,Nat.add_zero,Nat.zero_add,Nat.reduceEqDiff,Nat.reduceAdd,Int.toNat_natCast,Int.natCast_nonneg,qaz,Int.reduceNeg,qa0,qbK,qaP,h1,h2,h3,e1,t2]
 ·intro i hi k b hk hq
  obtain⟨h1,h2,h3⟩:=qbF qa6 as ha i hi
  generalize as[i]=a at *
  unfold qrs at hq
  split at hq
  ·rename_i t1
   injection hq with hq
   subst hq
   have e1:(a.tag == -1)=true:=by simpa using t1
   refine⟨_,.inr ⟨k,rfl⟩,?_⟩
   unfold qfU
   simp -implicitDefEqProofs only[qam,qad,qae,qab,qai,qar,qac,qah,aOp,opd,qak,qaW,qaB,qag,qaV,qba,qa8,qan,qaj,qay,qbr,qbE,qaE,leaf,qau,qaR,gcE,qaX,qaf,qaF,qas,qaG,qa5,ren,renC,qbT,qb2,qbR,qaq,Option.map_some,List.map_cons,List.map_nil,List.flatMap_cons,List.flatMap_nil,List.length_cons,List.length_nil,List.nil_append,List.append_nil,List.getElem?_cons_zero,List.set_cons_zero,List.take_succ_cons,List.take_zero,List.drop_succ_cons,List.drop_zero,List.take_nil,List.drop_nil,List.all_cons,List.all_nil,↓reduceIte,Bool.and_true,Bool.false_eq_true,decide_true,decide_false,and_self,Nat.le_refl,Nat.zero_le,Nat.add_zero,Nat.zero_add,Nat.reduceEqDiff,Nat.reduceAdd,Int.toNat_natCast,Int.natCast_nonneg,qaz,Int.reduceNeg,qa0,qbK,h1,h2,h3,e1]
  ·rename_i t1
   have e1:(a.tag == -1)=false:=by simpa using t1
   split at hq
   ·rename_i t2
    split at hq
    ·cases hq
    ·rename_i t3
     injection hq with hq
     subst hq
     have e3:((a.binds.length:Int)==0)=false:=by
      have:=List.length_pos_iff.2 t3
      simp
      omega
     refine⟨_,.inr ⟨k,rfl⟩,?_⟩
     unfold qfU
     simp -implicitDefEqProofs only[qam,qad,qae,qab,qai,qar,qac,qap,qah,aOp,opd,qak,qaW,qaB,qag,qaV,qba,qcb,qa8,qan,qaj,qax,qay,qbr,qbE,qaE,leaf,qau,qaR,gcE,qaX,qaf,qaF,qas,qaG,qa5,ren,renC,qbT,qb2,qbR,qaq,beq_self_eq_true,Option.map_some,List.map_cons,List.map_nil,List.flatMap_cons,List.flatMap_nil,List.length_cons,List.length_nil,List.length_map,List.nil_append,List.append_nil,List.getElem?_cons_zero,List.getElem?_cons_succ,List.set_cons_zero,List.take_succ_cons,List.take_zero,List.drop_succ_cons,List.drop_zero,List.take_nil,List.drop_nil,List.all_cons,List.all_nil,↓reduceIte,Bool.and_true,Bool.false_eq_true,decide_true,decide_false,and_self,Nat.le_refl,Nat.zero_le,Nat.add_zero,Nat.zero_add,Nat.reduceEqDiff,Nat.reduceAdd,Int.toNat_natCast,Int.natCast_nonneg,qaz,Int.reduceNeg,qa0,qbK,h1,h2,h3,e1,t2,e3]
   ·cases hq
 ·intro k hk
  have h0:=qbG as.length
  unfold qfU
  simp -implicitDefEqProofs only[qad,qae,qab,qbj,qac,qah,aOp,opd,qak,qaB,qag,qba,qa8,qaj,gcE,qaX,qaf,qaF,qas,qaG,qa5,ren,renC,qbb,qbT,qb2,qaq,qbS,Option.getD_none,List.map_cons,List.map_nil,List.flatMap_cons,List.flatMap_nil,List.length_nil,List.append_nil,List.getElem?_nil,List.take_nil,↓reduceIte,Bool.false_eq_true,decide_false,Nat.le_refl,Nat.reduceEqDiff,qaz,Int.reduceNeg,qa0,h0]
end
end Go.Abs
set_option linter.unusedVariables false
set_option linter.unusedSimpArgs false
set_option maxRecDepth 100000
set_option maxHeartbeats 4000000
namespace Go.Abs
theorem qi4 (t:CTree):qa1 t=.vptr [.int .i64 (tOp t),.int .i64 (tN t),.list ((qgc t).map qa4) none,.list ((qx5 t).map qa1) none,.list ((qx4 t).map qa6) none] 0:=by
 obtain⟨op,n,b,k,a⟩:=t
 rw[qbJ]
 rfl
theorem qpU {ks:List CTree} {i:Nat} (h:i<ks.length):(ks.map qa1)[i]? = some (qa1 (ks.getD i .none)):=by
 simp[h]
section
variable {L:Lib} (hC:CLib2 L)
include hC
theorem qwG (h243:L.fns 243=some fn243) (h209:L.fns 209=some fn209) (n:Int) (binds:List Int) (ks:List CTree) (as:List CAlt) (hkl:ks.length<2 ^ 30) (hk:quw 8 n ks) (h:Heap) :
  pcall L 209 [qa1 (.mk 8 n binds ks as)] h=some (.val (.int .i64 (qiY n ks)),h):=by
 have hL:=hC.plain
 have hp:=hL.pure
 have hk0:0<ks.length:=hk.1 (.inl rfl)
 have hw0:=qoF hC h243 (qhH ks)
 have hw1:=qoF hC h243 (qnL ks)
 have hg0:(ks.map qa1)[0]? = some (qa1 (qhH ks)):=qpU hk0
 have hdK:=qb0 ks
 have hdA:=qaP as
 have hdB:=qaA binds
 have hd0:qbd (qa1 (qhH ks))=true:=qc3 _
 have hd1:qbd (qa1 (qnL ks))=true:=qc3 _
 refine qbL hL h209 rfl ?_ h
 rw[qbJ]
 have c1:=qi4 (qnL ks)
 have c0:=qi4 (qhH ks)
 have hlen1:((ks.length:Int)==1)=decide (ks.length=1):=by
  by_cases h:ks.length=1
  ·simp[h]
  ·simp[h];omega
 have main:∀ (w0 w1 l1:Bool),qjD (qhH ks)=w0→(l1=false→((ks.map qa1)[1]? = some (qa1 (qnL ks))∧qjD (qnL ks)=w1))→decide (ks.length=1)=l1 →
   qmM (qaS fn209.results (qbQ L.pure (call L) fn209.body ⟨qeV [.vptr [.int .i64 8,.int .i64 n,.list (binds.map qa4) none,.list (ks.map qa1) none,.list (as.map qa6) none] 0],[]⟩))=some (.val (.int .i64 (qiY n ks))):=by
  intro w0 w1 l1 hw hw1' hl1
  have hwords:qm3 ks=(w0 && (l1 || qjD (qnL ks))):=by unfold qm3;rw[hw,hl1]
  rw[hw] at hw0
  rw[hl1] at hlen1
  have hnl:l1=true→(n=7∨n=9):=by
   intro h1
   subst h1
   refine Classical.byContradiction fun hn=>?_
   have:=hk.2 rfl hn
   have:ks.length=1:=by simpa using hl1
   omega
  unfold qiY
  rw[hwords]
  rw[c0] at hg0 hw0
  by_cases e7:n=7
  ·subst e7
   cases w0<;>cases l1
   all_goals first
    | (obtain⟨hg1,hq1⟩:=hw1' rfl;rw[hq1] at hw1;rw[c1] at hg1 hw1;cases w1<;>unfold fn209<;>simp -implicitDefEqProofs only[qad,qae,qab,qai,qar,qac,qap,qah,aOp,opd,qak,qal,qag,qba,qcb,qa8,qan,qaj,qax,qay,qaE,qbg,qaS,qao,qaw,qaI,qbf,qbv,qaa,qaq,qaQ,qav,qat,qbN,beq_self_eq_true,Option.getD_some,List.map_cons,List.map_nil,List.length_cons,List.length_nil,List.length_map,List.getElem?_cons_zero,List.getElem?_cons_succ,↓reduceIte,Bool.and_true,Bool.false_eq_true,and_self,reduceCtorEq,Nat.zero_add,Nat.reduceEqDiff,Int.reduceToNat,Int.reduceLE,Int.cast_ofNat_Int,qa3,qaD,qaA,qaP,qb0,Int.le_refl,hg0,hw0,hg1,hw1,hlen1,hdK,hdA,hdB,qb0,qaK L hp,hp])
    | (unfold fn209;simp -implicitDefEqProofs only[qad,qae,qab,qai,qar,qac,qap,qah,aOp,opd,qak,qal,qag,qba,qcb,qa8,qan,qaj,qax,qay,qaE,qbg,qaS,qao,qaw,qaI,qbf,qbv,qaa,qaq,qaQ,qav,qat,qde,qbN,beq_self_eq_true,Option.getD_some,List.map_cons,List.map_nil,List.length_cons,List.length_nil,List.length_map,List.getElem?_cons_zero,List.getElem?_cons_succ,↓reduceIte,Bool.and_true,Bool.false_eq_true,and_self,reduceCtorEq,Nat.zero_add,Nat.reduceEqDiff,Int.reduceToNat,Int.cast_ofNat_Int,qa3,qaD,qaA,qaP,qb0,Int.le_refl,hg0,hw0,hlen1,hdK,hdA,hdB,qaK L hp,hp])
  by_cases e9:n=9
  ·subst e9
   cases w0<;>cases l1
   all_goals first
    | (obtain⟨hg1,hq1⟩:=hw1' rfl;rw[hq1] at hw1;rw[c1] at hg1 hw1;cases w1<;>unfold fn209<;>simp -implicitDefEqProofs only[qad,qae,qab,qai,qar,qac,qap,qah,aOp,opd,qak,qal,qag,qba,qcb,qa8,qan,qaj,qax,qay,qaE,qbg,qaS,qao,qaw,qaI,qbf,qbv,qaa,qaq,qaQ,qav,qat,qbN,beq_self_eq_true,Option.getD_some,List.map_cons,List.map_nil,List.length_cons,List.length_nil,List.length_map,List.getElem?_cons_zero,List.getElem?_cons_succ,↓reduceIte,Bool.and_true,Bool.false_eq_true,or_false,and_self,reduceCtorEq,Nat.zero_add,Nat.reduceEqDiff,Int.reduceToNat,Int.reduceLE,Int.reduceEq,Int.reduceBEq,Int.cast_ofNat_Int,qa3,qaD,qaA,qaP,qb0,Int.le_refl,hg0,hw0,hg1,hw1,hlen1,hdK,hdA,hdB,qaK L hp,hp,Int.reduceEq])
    | (unfold fn209;simp -implicitDefEqProofs only[qad,qae,qab,qai,qar,qac,qap,qah,aOp,opd,qak,qal,qag,qba,qcb,qa8,qan,qaj,qax,qay,qaE,qbg,qaS,qao,qaw,qaI,qbf,qbv,qaa,qaq,qaQ,qav,qat,qde,qbN,beq_self_eq_true,Option.getD_some,List.map_cons,List.map_nil,List.length_cons,List.length_nil,List.length_map,List.getElem?_cons_zero,List.getElem?_cons_succ,↓reduceIte,Bool.and_true,Bool.false_eq_true,or_false,and_self,reduceCtorEq,Nat.zero_add,Nat.reduceEqDiff,Int.reduceToNat,Int.reduceEq,Int.reduceBEq,Int.cast_ofNat_Int,qa3,qaD,qaA,qaP,qb0,Int.le_refl,hg0,hw0,hlen1,hdK,hdA,hdB,qaK L hp,hp,Int.reduceEq])
  have hl1f:l1=false:=by
   cases l1 with
   | false=>rfl
   | true=>rcases hnl rfl with h | h<;>contradiction
  subst hl1f
  obtain⟨hg1,hq1⟩:=hw1' rfl
  rw[hq1] at hw1
  rw[hq1,Bool.false_or]
  have hg1':=hg1
  rw[c1] at hg1 hw1
  have b7:(n==7)=false:=by simpa using e7
  have b9:(n==9)=false:=by simpa using e9
  rw[if_neg e7]
  by_cases e8:n=8∨n=11
  ·rw[if_pos e8]
   rcases e8 with rfl | rfl<;>cases w0<;>cases w1<;>unfold fn209<;>simp -implicitDefEqProofs only[qam,qad,qae,qab,qai,qar,qac,qap,qah,aOp,opd,qak,qal,qag,qba,qcb,qa8,qan,qaj,qax,qay,qaE,qbg,qaS,qao,qaw,qaI,qbf,qbv,qaa,qaq,qaQ,qav,qat,qbN,beq_self_eq_true,Option.getD_some,List.map_cons,List.map_nil,List.length_cons,List.length_nil,List.length_map,List.getElem?_cons_zero,List.getElem?_cons_succ,↓reduceIte,Bool.and_true,Bool.false_eq_true,and_self,reduceCtorEq,Nat.zero_add,Nat.reduceEqDiff,Int.reduceToNat,Int.reduceLE,Int.reduceBEq,Int.cast_ofNat_Int,qa3,qaD,qaA,qaP,qb0,Int.le_refl,hg0,hw0,hg1,hw1,hlen1,hdK,hdA,hdB,qaK L hp,hp]
  have b8:(n==8)=false:=by simp;omega
  have b11:(n==11)=false:=by simp;omega
  rw[if_neg e8]
  by_cases e10:n=10
  ·subst e10
   cases w0<;>cases w1<;>unfold fn209<;>simp -implicitDefEqProofs only[qad,qae,qab,qai,qar,qac,qap,qah,aOp,opd,qak,qal,qag,qba,qcb,qa8,qan,qaj,qax,qay,qaE,qbg,qaS,qao,qaw,qaI,qbf,qbv,qaa,qaq,qaQ,qav,qat,qbN,beq_self_eq_true,Option.getD_some,List.map_cons,List.map_nil,List.length_cons,List.length_nil,List.length_map,List.getElem?_cons_zero,List.getElem?_cons_succ,↓reduceIte,Bool.and_true,Bool.false_eq_true,and_self,reduceCtorEq,Nat.zero_add,Nat.reduceEqDiff,Int.reduceToNat,Int.reduceLE,Int.reduceBEq,Int.cast_ofNat_Int,qa3,qaD,qaA,qaP,qb0,Int.le_refl,hg0,hw0,hg1,hw1,hlen1,hdK,hdA,hdB,qaK L hp,hp]
  have b10:(n==10)=false:=by simpa using e10
  rw[if_neg e10,if_neg e9]
  by_cases e3:n=3∨n=4
  ·rw[if_pos e3]
   by_cases k1:tOp (qnL ks)=1
   ·by_cases k2:tN (qnL ks)=0
    ·have d1:(tOp (qnL ks)==1)=true:=by simpa using k1
     have d2:(tN (qnL ks) != 0)=false:=by simpa using k2
     rw[if_neg (fun hx=>hx.2.2 k2)]
     rcases e3 with rfl | rfl<;>cases w0<;>cases w1<;>unfold fn209<;>simp -implicitDefEqProofs only[qam,qad,qae,qab,qai,qar,qac,qap,qah,aOp,opd,qak,qal,qag,qba,qcb,qa8,qan,qaj,qax,qay,qaE,qbg,qaS,qao,qaw,qaI,qbf,qbv,qaa,qaq,qaQ,qav,qat,qbN,beq_self_eq_true,Option.getD_some,List.map_cons,List.map_nil,List.length_cons,List.length_nil,List.length_map,List.getElem?_cons_zero,List.getElem?_cons_succ,↓reduceIte,Bool.and_true,Bool.false_eq_true,and_self,reduceCtorEq,Nat.add_zero,Nat.zero_add,Nat.reduceEqDiff,Int.reduceToNat,Int.reduceLE,Int.reduceBEq,Int.cast_ofNat_Int,qa3,qaD,qaA,qaP,qb0,Int.le_refl,hg0,hw0,hg1,hw1,hlen1,hdK,hdA,hdB,d1,d2,qaK L hp,hp]
    ·have d1:(tOp (qnL ks)==1)=true:=by simpa using k1
     have d2:(tN (qnL ks) != 0)=true:=by simpa using k2
     rcases e3 with rfl | rfl<;>cases w0<;>cases w1<;>simp only[Bool.and_self,Bool.false_and,Bool.and_false,k1,k2,ne_eq,not_false_eq_true,and_self,and_true,Bool.false_eq_true,false_and,if_true,if_false]<;>unfold fn209<;>simp -implicitDefEqProofs only[qam,qad,qae,qab,qai,qar,qac,qap,qah,aOp,opd,qak,qal,qag,qba,qcb,qa8,qan,qaj,qax,qay,qaE,qbg,qaS,qao,qaw,qaI,qbf,qbv,qaa,qaq,qaQ,qav,qat,qbN,beq_self_eq_true,Option.getD_some,List.map_cons,List.map_nil,List.length_cons,List.length_nil,List.length_map,List.getElem?_cons_zero,List.getElem?_cons_succ,↓reduceIte,Bool.and_true,Bool.false_eq_true,and_self,reduceCtorEq,Nat.add_zero,Nat.zero_add,Nat.reduceEqDiff,Int.reduceToNat,Int.reduceLE,Int.reduceBEq,Int.cast_ofNat_Int,qa3,qaD,qaA,qaP,qb0,Int.le_refl,hg0,hw0,hg1,hw1,hlen1,hdK,hdA,hdB,d1,d2,qaK L hp,hp]
   ·have d1:(tOp (qnL ks)==1)=false:=by simpa using k1
    rw[if_neg (fun hx=>k1 hx.2.1)]
    rcases e3 with rfl | rfl<;>cases w0<;>cases w1<;>unfold fn209<;>simp -implicitDefEqProofs only[qam,qad,qae,qab,qai,qar,qac,qap,qah,aOp,opd,qak,qal,qag,qba,qcb,qa8,qan,qaj,qax,qay,qaE,qbg,qaS,qao,qaw,qaI,qbf,qbv,qaa,qaq,qaQ,qav,qat,qbN,beq_self_eq_true,Option.getD_some,List.map_cons,List.map_nil,List.length_cons,List.length_nil,List.length_map,List.getElem?_cons_zero,List.getElem?_cons_succ,↓reduceIte,Bool.and_true,Bool.false_eq_true,and_self,reduceCtorEq,Nat.add_zero,Nat.zero_add,Nat.reduceEqDiff,Int.reduceToNat,Int.reduceLE,Int.reduceBEq,Int.cast_ofNat_Int,qa3,qaD,qaA,qaP,qb0,Int.le_refl,hg0,hw0,hg1,hw1,hlen1,hdK,hdA,hdB,d1,qaK L hp,hp]
  have b3:(n==3)=false:=by simp;omega
  have b4:(n==4)=false:=by simp;omega
  rw[if_neg e3]
  cases w0<;>cases w1<;>unfold fn209<;>simp -implicitDefEqProofs only[qam,qad,qae,qab,qai,qar,qac,qap,qah,aOp,opd,qak,qal,qag,qba,qcb,qa8,qan,qaj,qax,qay,qaE,qbg,qaS,qao,qaw,qaI,qbf,qbv,qaa,qaq,qaQ,qav,qat,qbN,beq_self_eq_true,Option.getD_some,List.map_cons,List.map_nil,List.length_cons,List.length_nil,List.length_map,List.getElem?_cons_zero,List.getElem?_cons_succ,↓reduceIte,Bool.and_true,Bool.and_false,Bool.false_eq_true,and_self,reduceCtorEq,Nat.zero_add,Nat.reduceEqDiff,Int.reduceToNat,Int.reduceLE,Int.cast_ofNat_Int,qa3,qaD,qaA,qaP,qb0,Int.le_refl,hg0,hw0,hg1,hw1,hlen1,hdK,hdA,hdB,b3,b4,b7,b8,b9,b10,b11,qaK L hp,hp]
 refine main _ (qjD (qnL ks)) _ rfl (fun hl=>⟨qpU ?_,rfl⟩) rfl
 have:¬ ks.length=1:=by simpa using hl
 omega
end
end Go.Abs
set_option linter.unusedVariables false
set_option linter.unusedSimpArgs false
set_option maxRecDepth 100000
set_option maxHeartbeats 4000000
namespace Go.Abs
section
variable {L:Lib} (hC:CLib2 L)
include hC
theorem qxo (h243:L.fns 243=some fn243) (h209:L.fns 209=some fn209) (h210:L.fns 210=some fn210) (h211:L.fns 211=some fn211) (h173:L.fns 173=some fn173)
  (op n:Int) (binds:List Int) (ks:List CTree) (as:List CAlt) (hkl:ks.length<2 ^ 30) (hal:as.length<2 ^ 30) (hbl:(qgc (qhH ks)).length<2 ^ 30) (hk:quw op n ks) (h:Heap) :
  pcall L 173 [qa1 (.mk op n binds ks as)] h=some (.val (.int .i64 (qgE op n ks as)),h):=by
 have hL:=hC.plain
 have hp:=hL.pure
 have hdK:=qb0 ks
 have hdA:=qaP as
 have hdB:=qaA binds
 have hprim:=fun hk=>qwG hC h243 h209 n binds ks as hkl hk
 have hcond:=fun hk=>quX hC h210 op n binds ks as hk hal
 have hhas:=qxc hC h211 (qgc (qhH ks)) hbl n
 refine qbL hL h173 rfl ?_ h
 unfold qgE
 rw[qbJ] at hprim hcond ⊢
 have c0:=qi4 (qhH ks)
 by_cases e17:op=17
 ·subst e17
  unfold fn173
  simp -implicitDefEqProofs only[qad,qae,qab,qai,qar,qac,qah,aOp,opd,qak,qal,qag,qba,qa8,qaj,qay,qaE,qaS,qao,qaw,qaI,qbf,beq_self_eq_true,Option.getD_some,List.getElem?_cons_zero,↓reduceIte,Bool.false_eq_true,reduceCtorEq,Nat.add_zero,Int.cast_ofNat_Int,qaD]
 rw[if_neg e17]
 have b17:(op==17)=false:=by simpa using e17
 by_cases e8:op=8
 ·subst e8
  have hprim:=hprim hk
  unfold fn173
  simp -implicitDefEqProofs only[qad,qae,qab,qai,qar,qac,qah,aOp,opd,qak,qal,qag,qba,qa8,qaj,qay,qaE,qaS,qao,qaw,qaI,qbf,qbv,qaa,qaq,qaQ,qav,qat,beq_self_eq_true,Option.getD_some,List.map_cons,List.map_nil,List.getElem?_cons_zero,↓reduceIte,Bool.and_true,Bool.false_eq_true,and_self,reduceCtorEq,Nat.add_zero,Nat.reduceEqDiff,Int.reduceBEq,qa3,qaD,hprim,hdK,hdA,hdB,qaK L hp,hp]
 rw[if_neg e8]
 have b8:(op==8)=false:=by simpa using e8
 by_cases e3:op=3
 ·subst e3
  have hk0:0<ks.length:=hk.1 (.inr (.inl rfl))
  have hg0:(ks.map qa1)[0]? = some (qa1 (qhH ks)):=qpU hk0
  rw[c0] at hg0
  have w:IntKind.i64.wrap ((ks.length:Int)-1)=((ks.length-1:Nat):Int):=by rw[qc5 (by omega) (by omega)];omega
  rw[if_pos rfl]
  by_cases k2:tOp (qhH ks)=2
  ·have d2:(tOp (qhH ks) != 2)=false:=by simpa using k2
   by_cases kb:(qgc (qhH ks)).length+1=ks.length
   ·have db:(((qgc (qhH ks)).length:Int) != ((ks.length-1:Nat):Int))=false:=by simp;omega
    rw[if_neg (by simp[k2,kb])]
    unfold fn173
    simp -implicitDefEqProofs only[qam,qad,qaL,qae,qab,qai,qar,qac,qah,aOp,opd,qak,qal,qag,qba,qcb,qa8,qan,qaj,qax,qay,qaE,qbg,qaS,qao,qaw,qaI,qa2,qaT,qaN,qbc,qbf,beq_self_eq_true,Option.getD_some,List.length_cons,List.length_nil,List.length_map,List.nil_append,List.getElem?_cons_zero,List.getElem?_cons_succ,↓reduceIte,Bool.false_eq_true,reduceCtorEq,Nat.add_zero,Nat.zero_add,Nat.reduceEqDiff,Int.reduceToNat,qaC,qaM,Int.reduceBEq,Int.cast_ofNat_Int,qaD,Int.le_refl,hg0,d2,db,w,hdK,hdA,hdB]
   ·have db:(((qgc (qhH ks)).length:Int) != ((ks.length-1:Nat):Int))=true:=by simp;omega
    rw[if_pos (.inr kb)]
    unfold fn173
    simp -implicitDefEqProofs only[qad,qaL,qae,qab,qai,qar,qac,qah,aOp,opd,qak,qal,qag,qba,qcb,qa8,qan,qaj,qax,qay,qaE,qbg,qaS,qao,qaw,qaI,qa2,qaT,qaN,qbc,qbf,beq_self_eq_true,Option.getD_some,List.length_cons,List.length_nil,List.length_map,List.nil_append,List.getElem?_cons_zero,List.getElem?_cons_succ,↓reduceIte,Bool.false_eq_true,reduceCtorEq,Nat.add_zero,Nat.zero_add,Nat.reduceEqDiff,Int.reduceToNat,qaC,qaM,Int.reduceBEq,Int.cast_ofNat_Int,qaD,Int.le_refl,hg0,d2,db,w,hdK,hdA,hdB]
  ·have d2:(tOp (qhH ks) != 2)=true:=by simpa using k2
   rw[if_pos (.inl k2)]
   unfold fn173
   simp -implicitDefEqProofs only[qad,qaL,qae,qab,qai,qar,qac,qah,aOp,opd,qak,qal,qag,qba,qa8,qan,qaj,qax,qay,qaE,qbg,qaS,qao,qaw,qaI,qa2,qaT,qaN,qbc,qbf,qde,beq_self_eq_true,Option.getD_some,List.length_cons,List.length_nil,List.nil_append,List.getElem?_cons_zero,List.getElem?_cons_succ,↓reduceIte,Bool.false_eq_true,reduceCtorEq,Nat.add_zero,Nat.zero_add,Nat.reduceEqDiff,Int.reduceToNat,qaC,qaM,Int.reduceBEq,Int.cast_ofNat_Int,qaD,Int.le_refl,hg0,d2,hdK,hdA,hdB]
 rw[if_neg e3]
 have b3:(op==3)=false:=by simpa using e3
 by_cases e7:op=7
 ·subst e7
  have hcond:=hcond (hk.1 (.inr (.inr (.inl rfl))))
  rw[if_pos rfl]
  cases hq:qtk ks as<;>simp only[hq] at hcond<;>unfold fn173<;>simp -implicitDefEqProofs only[qam,qad,qae,qab,qai,qar,qac,qah,aOp,opd,qak,qal,qag,qba,qa8,aUn,qaj,qay,qaE,qaS,qao,qaw,qaI,qbf,qbv,qaa,qaq,qaQ,qav,qat,beq_self_eq_true,Option.getD_some,List.map_cons,List.map_nil,List.getElem?_cons_zero,↓reduceIte,Bool.and_true,Bool.not_true,Bool.not_false,Bool.false_eq_true,and_self,reduceCtorEq,Nat.add_zero,Nat.reduceEqDiff,Int.reduceBEq,Int.cast_ofNat_Int,qa3,qaD,hcond,hdK,hdA,hdB,qaK L hp,hp]
 rw[if_neg e7]
 have b7:(op==7)=false:=by simpa using e7
 by_cases e10:op=10∨op=11
 ·have hk0:0<ks.length:=hk.1 (by omega)
  have hg0:(ks.map qa1)[0]? = some (qa1 (qhH ks)):=qpU hk0
  rw[c0] at hg0
  rw[if_pos e10]
  by_cases k9:tOp (qhH ks)=9
  ·have d9:(tOp (qhH ks) != 9)=false:=by simpa using k9
   rcases e10 with rfl | rfl
   ·cases hq:qoI (qgc (qhH ks)) n with
    | true =>
      rw[hq] at hhas
      rw[if_neg (by simp[k9])]
      unfold fn173
      simp -implicitDefEqProofs only[qam,qad,qaL,qae,qab,qai,qar,qac,qah,aOp,opd,qak,qal,qag,qba,qa8,aUn,qan,qaj,qax,qay,qaE,qbg,qaS,qao,qaw,qaI,qa2,qaT,qaN,qbc,qbx,qbw,qbf,qaa,qaq,qav,qat,beq_self_eq_true,Option.getD_some,List.map_cons,List.map_nil,List.length_cons,List.length_nil,List.nil_append,List.getElem?_cons_zero,List.getElem?_cons_succ,↓reduceIte,Bool.and_true,Bool.not_true,Bool.false_eq_true,and_self,reduceCtorEq,Nat.add_zero,Nat.zero_add,Nat.reduceEqDiff,Int.reduceToNat,qaC,qaM,Int.reduceBEq,Int.cast_ofNat_Int,qa3,qaD,qaA,Int.le_refl,hg0,d9,hhas,hdK,hdA,hdB,qaK L hp,hp]
    | false =>
      rw[hq] at hhas
      rw[if_pos (.inr ⟨rfl,rfl⟩)]
      unfold fn173
      simp -implicitDefEqProofs only[qam,qad,qaL,qae,qab,qai,qar,qac,qah,aOp,opd,qak,qal,qag,qba,qa8,aUn,qan,qaj,qax,qay,qaE,qbg,qaS,qao,qaw,qaI,qa2,qaT,qaN,qbc,qbx,qbw,qbf,qaa,qaq,qav,qat,beq_self_eq_true,Option.getD_some,List.map_cons,List.map_nil,List.length_cons,List.length_nil,List.nil_append,List.getElem?_cons_zero,List.getElem?_cons_succ,↓reduceIte,Bool.and_true,Bool.not_false,Bool.false_eq_true,and_self,reduceCtorEq,Nat.add_zero,Nat.zero_add,Nat.reduceEqDiff,Int.reduceToNat,qaC,qaM,Int.reduceBEq,Int.cast_ofNat_Int,qa3,qaD,qaA,Int.le_refl,hg0,d9,hhas,hdK,hdA,hdB,qaK L hp,hp]
   ·rw[if_neg (by simp[k9])]
    unfold fn173
    simp -implicitDefEqProofs only[qam,qad,qaL,qae,qab,qai,qar,qac,qah,aOp,opd,qak,qal,qag,qba,qa8,qan,qaj,qax,qay,qaE,qbg,qaS,qao,qaw,qaI,qa2,qaT,qaN,qbc,qbf,qbN,beq_self_eq_true,Option.getD_some,List.length_cons,List.length_nil,List.nil_append,List.getElem?_cons_zero,List.getElem?_cons_succ,↓reduceIte,Bool.false_eq_true,reduceCtorEq,Nat.add_zero,Nat.zero_add,Nat.reduceEqDiff,Int.reduceToNat,qaC,qaM,Int.reduceBEq,Int.cast_ofNat_Int,qaD,Int.le_refl,hg0,d9,hdK,hdA,hdB,qaK L hp,hp]
  ·have d9:(tOp (qhH ks) != 9)=true:=by simpa using k9
   rw[if_pos (.inl k9)]
   rcases e10 with rfl | rfl<;>unfold fn173<;>simp -implicitDefEqProofs only[qam,qad,qaL,qae,qab,qai,qar,qac,qah,aOp,opd,qak,qal,qag,qba,qa8,qan,qaj,qax,qay,qaE,qbg,qaS,qao,qaw,qaI,qa2,qaT,qaN,qbc,qbf,qde,beq_self_eq_true,Option.getD_some,List.length_cons,List.length_nil,List.nil_append,List.getElem?_cons_zero,List.getElem?_cons_succ,↓reduceIte,Bool.false_eq_true,reduceCtorEq,Nat.add_zero,Nat.zero_add,Nat.reduceEqDiff,Int.reduceToNat,qaC,qaM,Int.reduceBEq,Int.cast_ofNat_Int,qaD,Int.le_refl,hg0,d9,hdK,hdA,hdB,qaK L hp,hp]
 rw[if_neg e10]
 have b10:(op==10)=false:=by simp;omega
 have b11:(op==11)=false:=by simp;omega
 by_cases e12:op=12
 ·subst e12
  unfold fn173
  simp -implicitDefEqProofs only[qad,qae,qab,qai,qar,qac,qah,aOp,opd,qak,qal,qag,qba,qa8,qaj,qay,qaE,qaS,qao,qaw,qaI,qbf,beq_self_eq_true,Option.getD_some,List.getElem?_cons_zero,↓reduceIte,Bool.false_eq_true,reduceCtorEq,Nat.add_zero,Nat.reduceEqDiff,Int.reduceBEq,Int.cast_ofNat_Int,qaD]
 rw[if_neg e12]
 have b12:(op==12)=false:=by simpa using e12
 by_cases e13:op=13
 ·subst e13
  unfold fn173
  simp -implicitDefEqProofs only[qad,qae,qab,qai,qar,qac,qah,aOp,opd,qak,qal,qag,qba,qa8,qaj,qay,qaE,qaS,qao,qaw,qaI,qbf,beq_self_eq_true,Option.getD_some,List.getElem?_cons_zero,↓reduceIte,Bool.false_eq_true,reduceCtorEq,Nat.add_zero,Nat.reduceEqDiff,Int.reduceBEq,Int.cast_ofNat_Int,qaD]
 rw[if_neg e13]
 have b13:(op==13)=false:=by simpa using e13
 unfold fn173
 simp -implicitDefEqProofs only[qam,qad,qae,qab,qai,qar,qac,qah,aOp,opd,qak,qal,qag,qba,qa8,qaj,qay,qaE,qaS,qao,qaw,qaI,qbf,Option.getD_some,List.getElem?_cons_zero,↓reduceIte,Bool.false_eq_true,reduceCtorEq,Nat.add_zero,Nat.reduceEqDiff,Int.cast_ofNat_Int,qaD,b17,b8,b3,b7,b10,b11,b12,b13]
end
theorem qwF (n:Int) (ks:List CTree):qiY n ks<64:=by
 unfold qiY
 repeat' split
 all_goals omega
theorem own_lt (op n:Int) (ks:List CTree) (as:List CAlt):qgE op n ks as<64:=by
 unfold qgE
 have:=qwF n ks
 repeat' split
 all_goals omega
end Go.Abs
set_option linter.unusedVariables false
set_option linter.unusedSimpArgs false
set_option maxRecDepth 100000
set_option maxHeartbeats 4000000
namespace Go.Abs
def qb3 (e:List CExpr) (k:Int):CExpr:=(e[k.toNat]?).getD ⟨0,0,[],[],[]⟩
def qeW (x:CExpr):CTree:=.mk x.op x.n x.binds [] []
def qr8 (e:List CExpr) (x:CExpr):CTree:=.mk x.op x.n x.binds (x.kids.map fun k=>qeW (qb3 e k)) x.alts
def qkC (x:CExpr):AObj:=.box [.int .i64 x.op,.int .i64 x.n,.list (x.binds.map qa4) none,.list [] (some none),.list [] (some none)]
def qxr (i:Nat):AVal:=.ptr (some (if i=0 then 3 else i+4,0))
def ql2 (j:Nat):List AVal:=(List.range j).map qxr
theorem qjX (j:Nat):(ql2 j).length=j:=by simp[ql2]
theorem qsq (j:Nat):ql2 (j+1)=ql2 j++[qxr j]:=by unfold ql2;rw[List.range_succ,List.map_append];rfl
theorem quc (j:Nat):((ql2 j).all fun v=>decide ((acells v).length=1))=true:=by
 rw[List.all_eq_true]
 intro v hv
 obtain⟨i,_,rfl⟩:=List.mem_map.1 hv
 rfl
def qdf (x:CExpr) (K:AVal):AObj:=.box [.int .i64 x.op,.int .i64 x.n,.list (x.binds.map qa4) none,K,.list (x.alts.map qa6) none]
def qim (e:List CExpr) (x:CExpr) (o:AObj) (j:Nat):Heap :=
 match j with
 | 0=>[o,qdf x (.list (x.kids.map qa4) none),qdf x (.list [] (some none))]
 | j+1=>[o,qdf x (.list (x.kids.map qa4) none),qdf x (.list (ql2 (j+1)) (some (some 4))),qkC (qb3 e (x.kids.getD 0 0)),.tail (j+1) 1]++((x.kids.take (j+1)).drop 1).map fun k=>qkC (qb3 e k)
def qxy (e:List CExpr) (i:Nat) (x:CExpr) (N:Nat) (o:AObj) (j:Nat):St :=
 ⟨kt [0,5,6,7,8,21,22,23,39,40,41] [.list (e.map qaO) none,.vec 0 N,.int .i64 i,.ptr (some (1,0)),.ptr (some (2,0)),.list (e.map qaO) none,.int .i64 e.length,.int .i64 i,.list (x.kids.map qa4) none,.int .i64 x.kids.length,.int .i64 j],qim e x o j⟩
def qx3 (e:List CExpr) (i:Nat) (x:CExpr) (N:Nat) (o:AObj):St :=
 ⟨kt [0,5,6,7,8,21,22,23] [.list (e.map qaO) none,.vec 0 N,.int .i64 i,.ptr (some (1,0)),.ptr (some (2,0)),.list (e.map qaO) none,.int .i64 e.length,.int .i64 i],qim e x o x.kids.length⟩
section
variable {L:Lib}
theorem qxs (e:List CExpr) (i:Nat) (x:CExpr) (hkl:x.kids.length<2 ^ 29) (hk:∀ k∈x.kids,0≤k∧k.toNat<e.length) (N:Nat) (o:AObj) :
  qb7 L.pure (call L) 3 [1000000,0,5,6,7,8,21,22,23,39,40,41] [1000000,0,5,6,7,8,21,22,23] 2 qh4 (qxy e i x N o 0)=some (.normal,qx3 e i x N o):=by
 refine qeb (qxy e i x N o) x.kids.length ?_ ?_
 ·intro j hj
  obtain⟨h1,h2,h3⟩:=qbF qa4 x.kids (by omega) j hj
  obtain⟨k0,k1⟩:=hk x.kids[j] (List.getElem_mem hj)
  have hg:(e.map qaO)[x.kids[j].toNat]? = some (qaO (qb3 e x.kids[j])):=by
   unfold qb3
   rw[List.getElem?_map,List.getElem?_eq_getElem k1]
   rfl
  unfold qxy
  rcases Nat.eq_zero_or_pos j with hz | hz
  ·have e1:qim e x o (j+1)=[o,qdf x (.list (x.kids.map qa4) none),qdf x (.list [.ptr (some (3,0))] (some (some 4))),qkC (qb3 e x.kids[j]),.tail 1 1]:=by
    subst hz
    have:((x.kids.take 1).drop 1)=[]:=List.eq_nil_of_length_eq_zero (by simp)
    have h0:x.kids.getD 0 0=x.kids[0]:=by rw[List.getD_eq_getElem?_getD,List.getElem?_eq_getElem hj];rfl
    show [o,qdf x (.list (x.kids.map qa4) none),qdf x (.list (ql2 1) (some (some 4))),qkC (qb3 e (x.kids.getD 0 0)),.tail 1 1]++((x.kids.take 1).drop 1).map (fun k=>qkC (qb3 e k))=_
    rw[this,h0]
    rfl
   have e0:qim e x o j=[o,qdf x (.list (x.kids.map qa4) none),qdf x (.list [] (some none))]:=by rw[hz];rfl
   rw[e0,e1]
   generalize x.kids[j]=k at *
   generalize qb3 e k=y at *
   unfold qdf qkC
   unfold qh4
   simp -implicitDefEqProofs only[qam,qad,qaL,qae,qab,qai,qac,qah,aOp,opd,qak,qaW,qaB,qag,qaV,qba,qa8,qan,qaj,qax,qay,qbr,qaE,qcK,qcX,leaf,qau,qaJ,qbn,qaY,qaR,qaX,qaf,qa2,qaT,qaN,qbc,qcg,qdd,Option.map_some,List.map_cons,List.map_nil,List.length_cons,List.length_nil,List.cons_append,List.nil_append,List.getElem?_cons_zero,List.getElem?_cons_succ,List.set_cons_zero,List.set_cons_succ,List.take_succ_cons,List.take_zero,List.drop_succ_cons,List.drop_zero,List.all_cons,List.all_nil,List.mem_cons,List.not_mem_nil,↓reduceIte,Bool.and_true,Bool.false_eq_true,or_false,decide_true,and_self,reduceCtorEq,Nat.add_zero,Nat.zero_add,Nat.reduceEqDiff,Nat.reduceAdd,Nat.reduceSub,Nat.reduceLeDiff,Int.toNat_natCast,Int.natCast_nonneg,List.cons_ne_nil,qaz,qck,qbP,qaC,qcr,qaM,forall_const,forall_eq_or_imp,forall_eq,qa0,qbM,qbB,h1,h2,h3,k0,k1,hg]
  ·obtain⟨m,rfl⟩:∃ m,j=m+1:=⟨j-1,by omega⟩
   have hd:((x.kids.take (m+2)).drop 1).map (fun k=>qkC (qb3 e k))=((x.kids.take (m+1)).drop 1).map (fun k=>qkC (qb3 e k))++[qkC (qb3 e x.kids[m+1])]:=by
    rw[List.take_succ_eq_append_getElem hj,List.drop_append_of_le_length (by simp;omega),List.map_append]
    rfl
   have e1:qim e x o (m+1+1)=[o,qdf x (.list (x.kids.map qa4) none),qdf x (.list (ql2 (m+1)++[.ptr (some (m+5,0))]) (some (some 4))),qkC (qb3 e (x.kids.getD 0 0)),.tail (m+2) 1]++(((x.kids.take (m+1)).drop 1).map (fun k=>qkC (qb3 e k))++[qkC (qb3 e x.kids[m+1])]):=by
    have hp:ql2 (m+1+1)=ql2 (m+1)++[.ptr (some (m+5,0))]:=by rw[qsq];rfl
    rw[← hp,← hd]
    rfl
   have e0:qim e x o (m+1)=[o,qdf x (.list (x.kids.map qa4) none),qdf x (.list (ql2 (m+1)) (some (some 4))),qkC (qb3 e (x.kids.getD 0 0)),.tail (m+1) 1]++((x.kids.take (m+1)).drop 1).map fun k=>qkC (qb3 e k):=rfl
   have hR:(((x.kids.take (m+1)).drop 1).map fun k=>qkC (qb3 e k)).length=m:=by simp;omega
   rw[e0,e1]
   generalize (((x.kids.take (m+1)).drop 1).map fun k=>qkC (qb3 e k))=R at *
   have hid:R.length+1+1+1+1+1=m+5:=by omega
   have hpl:=qjX (m+1)
   have hpa:=quc (m+1)
   have hmm:m+1+1≤1073741824:=by omega
   generalize ql2 (m+1)=P at *
   generalize qkC (qb3 e (x.kids.getD 0 0))=o0 at *
   generalize x.kids[m+1]=k at *
   generalize qb3 e k=y at *
   unfold qdf qkC
   unfold qh4
   simp -implicitDefEqProofs only[qam,qad,qaL,qae,qab,qai,qac,qah,aOp,opd,qak,qaW,qaB,qag,qaV,qba,qa8,qan,qaj,qax,qay,qbr,qaE,qcK,qcX,leaf,qau,qaJ,qbn,qaY,qaR,qaX,qaf,qa2,qaT,qaN,qbc,qcg,qdd,Option.map_some,List.map_cons,List.map_nil,List.length_cons,List.length_nil,List.cons_append,List.nil_append,List.getElem?_cons_zero,List.getElem?_cons_succ,List.set_cons_zero,List.set_cons_succ,List.take_succ_cons,List.take_zero,List.drop_succ_cons,List.drop_zero,List.all_cons,List.all_nil,List.mem_cons,List.not_mem_nil,↓reduceIte,Bool.and_true,Bool.false_eq_true,or_false,decide_true,and_self,reduceCtorEq,Nat.add_zero,Nat.zero_add,Nat.reduceEqDiff,Nat.reduceAdd,Nat.reduceSub,Nat.reduceLeDiff,Int.toNat_natCast,Int.natCast_nonneg,List.cons_ne_nil,qaz,qck,qbP,qaC,qcr,qaM,forall_const,forall_eq_or_imp,forall_eq,qa0,qbM,qbB,h1,h2,h3,k0,k1,hg,hid,hpl,hpa,hmm]
 ·have h0:=qbG x.kids.length
  unfold qxy qx3
  generalize qim e x o x.kids.length=H at *
  unfold qh4
  simp -implicitDefEqProofs only[qad,qae,qab,qbj,qac,qah,aOp,opd,qak,qaB,qag,qba,qa8,qaj,gcE,qaX,qaf,List.map_cons,List.map_nil,List.drop_succ_cons,List.drop_zero,↓reduceIte,Bool.false_eq_true,decide_true,decide_false,reduceCtorEq,Nat.reduceEqDiff,qaz,h0]
end
theorem qdv {h:Heap} {v:AVal} (hd:qbd v=true) (n:Nat):qbO h n v=wipe v:=by cases n<;>rw[qbO,if_pos hd]
theorem qsY {H:Heap} {id:Nat} {y:CExpr} (hh:H[id]? = some (qkC y)) (n:Nat):qbO H (n+1) (.ptr (some (id,0)))=qa1 (qeW y):=by
 rw[qbO,if_neg (by simp[qbd])]
 unfold qc0 qkC at *
 dsimp only
 rw[hh]
 dsimp only
 rw[if_pos (by rfl)]
 unfold qeW
 rw[qbJ]
 simp only[List.map_cons,List.map_nil]
 rw[qdv rfl,qdv rfl,qdv (by rw[qaa];exact qaA _),qdv rfl]
 rfl
theorem qr5 (e:List CExpr) (x:CExpr) (o:AObj):lookV (qim e x o x.kids.length) (.ptr (some (2,0)))=qa1 (qr8 e x):=by
 obtain⟨K,hK,hKl,hv⟩:∃ K,(qim e x o x.kids.length)[2]? = some (qdf x K)∧leaf K=true∧qbO (qim e x o x.kids.length) 1999 K=.list ((x.kids.map fun k=>qeW (qb3 e k)).map qa1) none:=by
  cases hj:x.kids.length with
  | zero =>
    have hn:x.kids=[]:=List.length_eq_zero_iff.1 hj
    refine⟨.list [] (some none),rfl,rfl,?_⟩
    rw[qdv rfl,hn]
    rfl
  | succ j =>
    refine⟨.list (ql2 (j+1)) (some (some 4)),rfl,rfl,?_⟩
    have hpt:∀ i,i<j+1→qbO (qim e x o (j+1)) (1997+1) (qxr i)=qa1 (qeW (qb3 e (x.kids.getD i 0))):=by
     intro i hi
     refine qsY ?_ _
     show ([o,qdf x (.list (x.kids.map qa4) none),qdf x (.list (ql2 (j+1)) (some (some 4))),qkC (qb3 e (x.kids.getD 0 0)),.tail (j+1) 1]++((x.kids.take (j+1)).drop 1).map fun k=>qkC (qb3 e k))[if i=0 then 3 else i+4]? = _
     by_cases h0:i=0
     ·subst h0
      rfl
     ·rw[if_neg h0,List.getElem?_append_right (by simp;omega)]
      obtain⟨m,rfl⟩:∃ m,i=m+1:=⟨i-1,by omega⟩
      have:m+1+4-[o,qdf x (.list (x.kids.map qa4) none),qdf x (.list (ql2 (j+1)) (some (some 4))),qkC (qb3 e (x.kids.getD 0 0)),.tail (j+1) 1].length=m:=by simp
      rw[this,List.getElem?_map,List.getElem?_drop,List.getElem?_take_of_lt (by omega),Nat.add_comm 1 m,List.getD_eq_getElem?_getD,List.getElem?_eq_getElem (by omega)]
      rfl
    have hmap:(ql2 (j+1)).map (qbO (qim e x o (j+1)) (1997+1))=(x.kids.map fun k=>qeW (qb3 e k)).map qa1:=by
     refine List.ext_getElem (by rw[List.length_map,qjX];simp[hj]) fun i h1 h2=>?_
     have hi:i<j+1:=by rw[List.length_map,qjX] at h1;exact h1
     have hg:(ql2 (j+1))[i]'(by rw[qjX];exact hi)=qxr i:=by simp[ql2]
     rw[List.getElem_map,hg,hpt i hi,List.getElem_map,List.getElem_map,List.getD_eq_getElem?_getD,List.getElem?_eq_getElem (by omega)]
     rfl
    show qbO _ (1998+1) _=_
    rw[qbO,if_neg (by simp[qbd])]
    show qc0 _ (qbO _ (1997+1)) _=_
    unfold qc0
    dsimp only
    rw[if_neg,if_pos,hmap]
    ·refine List.map_congr_left fun v hv=>?_
     obtain⟨i,hi,rfl⟩:=List.mem_map.1 hv
     rw[hpt i (List.mem_range.1 hi),qfG]
     rfl
    ·rw[ql2,List.range_succ_eq_map,List.map_cons,qaZ]
     simp[qxr,qbd]
 unfold lookV viewV
 rw[qbO,if_neg (by simp[qbd])]
 unfold qc0
 dsimp only
 rw[hK]
 unfold qdf
 dsimp only
 rw[if_pos (by rw[List.all_cons,List.all_cons,List.all_cons,List.all_cons,hKl];rfl)]
 simp only[List.map_cons,List.map_nil]
 rw[hv,qdv rfl,qdv rfl,qdv (by rw[qaa];exact qaA _),qdv (by rw[qaa];exact qaP _)]
 unfold qr8
 rw[qbJ]
 rfl
end Go.Abs
set_option linter.unusedVariables false
set_option linter.unusedSimpArgs false
set_option maxRecDepth 100000
set_option maxHeartbeats 4000000
namespace Go.Abs
def qhO (n:Nat):AVal:=.int .i64 n
def qit (e:List CExpr) (acc:List Nat) (x:CExpr) (k:Nat) (v:Nat) (kid:Int):Nat :=
 if x.op=2∨(x.op=5∧k<x.binds.length) then v
 else if x.op=3∧k=0∧(qb3 e kid).op=2 then v ||| acc.getD ((qb3 e kid).kids.getD 0 0).toNat 0
 else v ||| acc.getD kid.toNat 0
def qey (e:List CExpr) (acc:List Nat) (x:CExpr):List Int→Nat→Nat→Nat
 | [],_,v=>v
 | kid::ks,k,v=>qey e acc x ks (k+1) (qit e acc x k v kid)
theorem qjn (e:List CExpr) (acc:List Nat) (x:CExpr):∀ (ks:List Int) (k v:Nat),qcu (fun k v kid=>(.ok (qit e acc x k v kid):Except Unit Nat)) ks k v=.ok (qey e acc x ks k v)
 | [],_,_=>rfl
 | kid::ks,k,v=>qjn e acc x ks (k+1) _
def qkk (e:List CExpr) (acc:List Nat) (x:CExpr):Nat:=qey e acc x x.kids 0 (qgE x.op x.n (x.kids.map fun k=>qeW (qb3 e k)) x.alts)
def qby (e:List CExpr) (l:List CExpr) (acc:List Nat):List Nat:=l.foldl (fun acc x=>acc++[qkk e acc x]) acc
theorem qqc {x y:Nat} (hx:x<64) (hy:y<64):IntKind.i64.wrap ((BitVec.ofInt IntKind.i64.bits (x:Int) ||| BitVec.ofInt IntKind.i64.bits (y:Int)).toNat:Int)=((x ||| y:Nat):Int):=by
 have h:x ||| y<64:=Nat.or_lt_two_pow (n:=6) hx hy
 show IntKind.i64.wrap (((BitVec.ofInt 64 (x:Int) ||| BitVec.ofInt 64 (y:Int):BitVec 64).toNat:Nat):Int)=_
 rw[BitVec.ofInt_natCast,BitVec.ofInt_natCast,BitVec.toNat_or,BitVec.toNat_ofNat,BitVec.toNat_ofNat,Nat.mod_eq_of_lt (by omega),Nat.mod_eq_of_lt (by omega),qc5 (by omega) (by omega)]
def qcv (acc:List Nat) (v z:Nat):List AVal:=acc.map qhO++qhO v::List.replicate z (qhO 0)
theorem qlA (acc:List Nat) (v z:Nat):(qcv acc v z).length=acc.length+1+z:=by unfold qcv;simp;omega
theorem qrn (acc:List Nat) (v z:Nat):(qcv acc v z)[acc.length]? = some (.int .i64 v):=by
 unfold qcv
 rw[List.getElem?_append_right (by simp)]
 simp[qhO]
theorem qlz (acc:List Nat) (v z m:Nat) (h:m<acc.length):(qcv acc v z)[m]? = some (.int .i64 (acc.getD m 0:Nat)):=by
 unfold qcv
 rw[List.getElem?_append_left (by simpa using h),List.getElem?_map,List.getD_eq_getElem?_getD,List.getElem?_eq_getElem h]
 rfl
theorem qlB (acc:List Nat) (v w z:Nat):(qcv acc v z).take acc.length++.int .i64 (w:Int)::(qcv acc v z).drop (acc.length+1)=qcv acc w z:=by
 unfold qcv
 rw[List.take_append_of_le_length (by simp),List.take_of_length_le (by simp),List.drop_append,List.drop_of_length_le (by simp)]
 simp[qhO]
theorem qvd (e:List CExpr) (x:CExpr) (j:Nat):∃ R,∀ o,qim e x o j=o::qdf x (.list (x.kids.map qa4) none)::R:=by
 cases j with
 | zero=>exact⟨_,fun o=>rfl⟩
 | succ j=>exact⟨_,fun o=>rfl⟩
def qsF (e:List CExpr) (i:Nat) (x:CExpr) (N:Nat) (H:List AVal→Heap) (acc:List Nat) (z v k:Nat):St :=
 ⟨kt [0,5,6,7,21,22,23,78,79,80] [.list (e.map qaO) none,.vec 0 N,.int .i64 i,.ptr (some (1,0)),.list (e.map qaO) none,.int .i64 e.length,.int .i64 i,.list (x.kids.map qa4) none,.int .i64 x.kids.length,.int .i64 k],H (qcv acc v z)⟩
def qup (e:List CExpr) (i:Nat) (N:Nat) (H:List AVal→Heap) (acc:List Nat) (z v:Nat):St :=
 ⟨kt [0,5,21,22,23] [.list (e.map qaO) none,.vec 0 N,.list (e.map qaO) none,.int .i64 e.length,.int .i64 i],H (qcv acc v z)⟩
section
variable {L:Lib}
theorem qxt (e:List CExpr) (i:Nat) (x:CExpr) (b:Nat) (hkl:x.kids.length<2 ^ 29) (hbl:x.binds.length<2 ^ 30) (N:Nat) (acc:List Nat) (z:Nat) (hN:acc.length<N) (ha:acc.length=i) (hacc:∀ a∈acc,a<64)
  (hk:∀ k∈x.kids,0≤k∧k.toNat<i∧k.toNat<e.length∧((qb3 e k).op=2→∃ k0,(qb3 e k).kids[0]? = some k0∧0≤k0∧k0.toNat<i)) (R:Heap) (v0:Nat) (hv0:v0<64) :
  qey e acc x x.kids 0 v0<64 ∧
  qb7 L.pure (call L) b [1000000,0,5,6,7,21,22,23,78,79,80] [1000000,0,5,21,22,23] 4 qdU (qsF e i x N (fun cs=>.vec cs 1::qdf x (.list (x.kids.map qa4) none)::R) acc z v0 0) =
   some (.normal,qup e i N (fun cs=>.vec cs 1::qdf x (.list (x.kids.map qa4) none)::R) acc z (qey e acc x x.kids 0 v0)):=by
 have hget64:∀ m,acc.getD m 0<64:=by
  intro m
  rw[List.getD_eq_getElem?_getD]
  cases h:acc[m]? with
  | none=>simp
  | some a=>simpa using hacc a (List.mem_of_getElem? h)
 have key:=qcY (pure:=L.pure) (call:=call L) (b:=b) (keep:=[1000000,0,5,6,7,21,22,23,78,79,80]) (fk:=[1000000,0,5,21,22,23]) (id:=4) (body:=qdU) (ε:=Unit) x.kids (fun k v kid=>.ok (qit e acc x k v kid))
  (fun v k=>qsF e i x N (fun cs=>.vec cs 1::qdf x (.list (x.kids.map qa4) none)::R) acc z v k) (fun v=>qup e i N (fun cs=>.vec cs 1::qdf x (.list (x.kids.map qa4) none)::R) acc z v) (fun _ _=>False) (fun v _=>v<64) v0 hv0 ?_ ?_ ?_
 ·have:=key.1 _ (qjn e acc x x.kids 0 v0)
  exact this
 ·intro k hkk v v' hv hq
  injection hq with hq
  subst hq
  obtain⟨h1,h2,h3⟩:=qbF qa4 x.kids (by omega) k hkk
  obtain⟨k0,k1,k2,k3⟩:=hk x.kids[k] (List.getElem_mem hkk)
  have hg:(e.map qaO)[x.kids[k].toNat]? = some (qaO (qb3 e x.kids[k])):=by
   unfold qb3
   rw[List.getElem?_map,List.getElem?_eq_getElem k2]
   rfl
  generalize x.kids[k]=kid at *
  have c1:=qrn acc v z
  have c2:=qlz acc v z kid.toNat (by omega)
  rw[ha] at c1
  have hiN:(i:Int)<N:=by omega
  have hkN:kid<N:=by omega
  have clen:=qlA acc v z
  have cput:=fun w=>qlB acc v w z
  rw[ha] at cput
  have hle:i+1≤(qcv acc v z).length:=by omega
  unfold qsF qit
  by_cases e2:x.op=2
  ·have b2:(x.op==2)=true:=by simpa using e2
   rw[if_pos (.inl e2)]
   refine⟨?_,hv⟩
   generalize qcv acc v z=cs at *
   unfold qdf
   unfold qdU
   simp -implicitDefEqProofs only[qam,qad,qae,qab,qai,qac,qah,aOp,opd,qak,qaB,qag,qba,qa8,qan,qaj,qay,qaE,qaJ,qaX,qaf,List.map_cons,List.map_nil,List.length_cons,List.length_nil,List.getElem?_cons_zero,List.getElem?_cons_succ,List.drop_succ_cons,List.drop_zero,↓reduceIte,Bool.false_eq_true,decide_true,reduceCtorEq,Nat.add_zero,Nat.zero_add,Nat.reduceEqDiff,Int.toNat_natCast,Int.natCast_nonneg,qaz,qbM,h1,h2,h3,b2]
  have b2:(x.op==2)=false:=by simpa using e2
  by_cases e5:x.op=5∧k<x.binds.length
  ·have b5:(x.op==5)=true:=by simpa using e5.1
   have bk:((k:Int)<x.binds.length):=by omega
   rw[if_pos (.inr e5)]
   refine⟨?_,hv⟩
   generalize qcv acc v z=cs at *
   unfold qdf
   unfold qdU
   simp -implicitDefEqProofs only[qam,qad,qae,qab,qai,qac,qap,qah,aOp,opd,qak,qaB,qag,qba,qcb,qa8,qan,qaj,qax,qay,qaE,qaJ,qaX,qaf,beq_self_eq_true,List.map_cons,List.map_nil,List.length_cons,List.length_nil,List.length_map,List.getElem?_cons_zero,List.getElem?_cons_succ,List.drop_succ_cons,List.drop_zero,↓reduceIte,Bool.false_eq_true,decide_true,reduceCtorEq,Nat.add_zero,Nat.zero_add,Nat.reduceEqDiff,Int.toNat_natCast,Int.natCast_nonneg,qaz,qbM,h1,h2,h3,b2,b5,bk]
  rw[if_neg (by omega)]
  have hb5:∀ (q:Bool),(x.op==5)=q→(q=true→¬ ((k:Int)<x.binds.length)):=by
   intro q hq hqt
   subst hqt
   have:x.op=5:=by simpa using hq
   omega
  by_cases e3:x.op=3∧k=0∧(qb3 e kid).op=2
  ·obtain⟨e3a,e3b,e3c⟩:=e3
   rw[if_pos ⟨e3a,e3b,e3c⟩]
   obtain⟨q0,q1,q2,q3⟩:=k3 e3c
   have b3:(x.op==3)=true:=by simpa using e3a
   have b5:(x.op==5)=false:=by simp;omega
   have bk0:((k:Int)==0)=true:=by simp;omega
   have bl:((qb3 e kid).op==2)=true:=by simpa using e3c
   have hq0:(qb3 e kid).kids.getD 0 0=q0:=by rw[List.getD_eq_getElem?_getD,q1];rfl
   have hqg:((qb3 e kid).kids.map qa4)[0]? = some (.int .i64 q0):=by rw[List.getElem?_map,q1];rfl
   have c3:=qlz acc v z q0.toNat (by omega)
   have hqN:q0<N:=by omega
   rw[hq0]
   have hor:=qqc hv (hget64 q0.toNat)
   have hlt:v ||| acc.getD q0.toNat 0<64:=Nat.or_lt_two_pow (n:=6) hv (hget64 q0.toNat)
   refine⟨?_,hlt⟩
   have cput:=cput (v ||| acc.getD q0.toNat 0)
   generalize v ||| acc.getD q0.toNat 0=w at *
   generalize acc.getD q0.toNat 0=u at *
   generalize qcv acc v z=cs at *
   generalize qcv acc w z=cs' at *
   generalize qb3 e kid=y at *
   unfold qdf
   unfold qdU
   simp -implicitDefEqProofs only[qam,qad,qaL,qae,qab,qai,qac,qap,qah,aOp,opd,qak,qaW,qaB,qag,qaV,qba,qa8,qan,qaj,qax,qay,qbr,qaE,leaf,qau,qaJ,qaR,qaX,qaf,qa2,qaT,qaN,qbc,qbN,beq_self_eq_true,List.map_cons,List.map_nil,List.length_cons,List.length_nil,List.cons_append,List.nil_append,List.append_assoc,List.getElem?_cons_zero,List.getElem?_cons_succ,List.set_cons_zero,List.drop_succ_cons,List.drop_zero,List.all_cons,List.all_nil,↓reduceIte,Bool.and_true,Bool.false_eq_true,decide_true,and_self,reduceCtorEq,Nat.add_zero,Nat.zero_add,Nat.reduceEqDiff,Nat.reduceAdd,Int.reduceToNat,Int.toNat_natCast,Int.natCast_nonneg,qaz,qaC,qaM,qbM,qbB,Nat.mul_one,Int.le_refl,h1,h2,h3,b2,b5,b3,bk0,bl,k0,hg,hqg,q2,c1,c3,hiN,hqN,hor,hle,cput]
  ·rw[if_neg e3]
   have hor:=qqc hv (hget64 kid.toNat)
   have hlt:v ||| acc.getD kid.toNat 0<64:=Nat.or_lt_two_pow (n:=6) hv (hget64 kid.toNat)
   refine⟨?_,hlt⟩
   have cput:=cput (v ||| acc.getD kid.toNat 0)
   generalize v ||| acc.getD kid.toNat 0=w at *
   generalize acc.getD kid.toNat 0=u at *
   generalize qcv acc v z=cs at *
   generalize qcv acc w z=cs' at *
   generalize qb3 e kid=y at *
   unfold qdf
   by_cases e3a:x.op=3
   ·have b3:(x.op==3)=true:=by simpa using e3a
    have b5:(x.op==5)=false:=by simp;omega
    by_cases e3b:k=0
    ·have bk0:((k:Int)==0)=true:=by simp;omega
     have bl:(y.op==2)=false:=by simp;exact fun h=>e3 ⟨e3a,e3b,h⟩
     unfold qdU
     simp -implicitDefEqProofs only[qam,qad,qaL,qae,qab,qai,qac,qap,qah,aOp,opd,qak,qaW,qaB,qag,qaV,qba,qa8,qan,qaj,qax,qay,qbr,qaE,leaf,qau,qaJ,qaR,qaX,qaf,qa2,qaT,qaN,qbc,qbN,beq_self_eq_true,List.map_cons,List.map_nil,List.length_cons,List.length_nil,List.cons_append,List.nil_append,List.append_assoc,List.getElem?_cons_zero,List.getElem?_cons_succ,List.set_cons_zero,List.drop_succ_cons,List.drop_zero,List.all_cons,List.all_nil,↓reduceIte,Bool.and_true,Bool.false_eq_true,decide_true,and_self,reduceCtorEq,Nat.add_zero,Nat.zero_add,Nat.reduceEqDiff,Nat.reduceAdd,Int.toNat_natCast,Int.natCast_nonneg,qaz,qaC,qaM,qbM,qbB,Nat.mul_one,h1,h2,h3,b2,b5,b3,bk0,bl,k0,hg,c1,c2,hiN,hkN,hor,hle,cput]
    ·have bk0:((k:Int)==0)=false:=by simp;omega
     unfold qdU
     simp -implicitDefEqProofs only[qam,qad,qaL,qae,qab,qai,qac,qap,qah,aOp,opd,qak,qaW,qaB,qag,qaV,qba,qa8,qan,qaj,qax,qay,qbr,qaE,leaf,qaJ,qaR,qaX,qaf,qa2,qaT,qaN,qbc,qbN,beq_self_eq_true,List.map_cons,List.map_nil,List.length_cons,List.length_nil,List.cons_append,List.nil_append,List.append_assoc,List.getElem?_cons_zero,List.getElem?_cons_succ,List.set_cons_zero,List.drop_succ_cons,List.drop_zero,List.all_cons,List.all_nil,↓reduceIte,Bool.and_true,Bool.false_eq_true,decide_true,and_self,reduceCtorEq,Nat.add_zero,Nat.zero_add,Nat.reduceEqDiff,Int.toNat_natCast,Int.natCast_nonneg,qaz,qaC,qaM,qbM,Nat.mul_one,h1,h2,h3,b2,b5,b3,bk0,k0,hg,c1,c2,hiN,hkN,hor,hle,cput]
   ·have b3:(x.op==3)=false:=by simpa using e3a
    cases b5:x.op==5 with
    | false =>
      unfold qdU
      simp -implicitDefEqProofs only[qam,qad,qaL,qae,qab,qai,qac,qap,qah,aOp,opd,qak,qaW,qaB,qag,qaV,qba,qa8,qan,qaj,qax,qay,qbr,qaE,leaf,qaJ,qaR,qaX,qaf,qa2,qaT,qaN,qbc,qbN,List.map_cons,List.map_nil,List.length_cons,List.length_nil,List.cons_append,List.nil_append,List.append_assoc,List.getElem?_cons_zero,List.getElem?_cons_succ,List.set_cons_zero,List.drop_succ_cons,List.drop_zero,List.all_cons,List.all_nil,↓reduceIte,Bool.and_true,Bool.false_eq_true,decide_true,and_self,reduceCtorEq,Nat.add_zero,Nat.zero_add,Nat.reduceEqDiff,Int.toNat_natCast,Int.natCast_nonneg,qaz,qaC,qaM,qbM,Nat.mul_one,h1,h2,h3,b2,b5,b3,k0,hg,c1,c2,hiN,hkN,hor,hle,cput]
    | true =>
      have bk:=hb5 true b5 rfl
      unfold qdU
      simp -implicitDefEqProofs only[qam,qad,qaL,qae,qab,qai,qac,qap,qah,aOp,opd,qak,qaW,qaB,qag,qaV,qba,qcb,qa8,qan,qaj,qax,qay,qbr,qaE,leaf,qaJ,qaR,qaX,qaf,qa2,qaT,qaN,qbc,qbN,beq_self_eq_true,List.map_cons,List.map_nil,List.length_cons,List.length_nil,List.length_map,List.cons_append,List.nil_append,List.append_assoc,List.getElem?_cons_zero,List.getElem?_cons_succ,List.set_cons_zero,List.drop_succ_cons,List.drop_zero,List.all_cons,List.all_nil,↓reduceIte,Bool.and_true,Bool.false_eq_true,decide_true,decide_false,and_self,reduceCtorEq,Nat.add_zero,Nat.zero_add,Nat.reduceEqDiff,Int.toNat_natCast,Int.natCast_nonneg,qaz,qaC,qaM,qbM,Nat.mul_one,h1,h2,h3,b2,b5,b3,bk,k0,hg,c1,c2,hiN,hkN,hor,hle,cput]
 ·intro k hkk v er _ hq
  cases hq
 ·intro v hv
  have h0:=qbG x.kids.length
  unfold qsF qup
  generalize qcv acc v z=cs at *
  unfold qdU
  simp -implicitDefEqProofs only[qad,qae,qab,qbj,qac,qah,aOp,opd,qak,qaB,qag,qba,qa8,qaj,gcE,qaX,qaf,List.map_cons,List.map_nil,List.drop_succ_cons,List.drop_zero,↓reduceIte,Bool.false_eq_true,decide_true,decide_false,reduceCtorEq,Nat.reduceEqDiff,qaz,h0]
end
end Go.Abs
