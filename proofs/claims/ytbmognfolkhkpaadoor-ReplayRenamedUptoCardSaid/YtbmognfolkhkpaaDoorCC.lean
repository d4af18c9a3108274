/-
  PARTS OF A PROOF, joined: an abstract machine for quiet code, its evaluation, and what the seat's functions answer on it. Conditions: none.
-/
import Derived.Test.YtbmognfolkhkpaaDoorCA
set_option linter.unusedVariables false
set_option linter.unusedSimpArgs false
set_option maxRecDepth 100000
set_option maxHeartbeats 4000000
namespace Go.Abs
def qoE (n:Int):Int:=if n=7∨n=9 then 1 else if n=11 then 3 else 2
def kbu (op n:Int) (bl kl:Nat):Option (Int × Int × Bool) :=
 if op=0∨op=1∨op=17 then some (0,0,true)
 else if op=2 then some (1,bl,false)
 else if op=3 then some (max 1 (kl:Int),0,false)
 else if op=4 then some (2,1,false)
 else if op=5 then some ((bl:Int)+1,max 1 (bl:Int),false)
 else if op=6 then some (kl,0,true)
 else if op=8 then (if 0≤n∧n≤11 then some (qoE n,0,true) else none)
 else if op=9 then some (bl,bl,false)
 else if op=10∨op=12 then some (1,0,true)
 else if op=11 then some (2,0,true)
 else if op=14∨op=15 then some (kl,0,true)
 else if op=16 then some (1,0,true)
 else none
def qeV (n:Int) (bl kl al:Nat) (r:Int × Int × Bool):Bool:=((kl:Int)==r.1) && ((bl:Int)==r.2.1) && ((al:Int)==0) && (r.2.2 || n==0)
def qcz (op n:Int) (bl kl:Nat) (as:List CAlt):Bool :=
 if op=7∨op=13 then qic op as kl && ((bl:Int)==0) && (n==0)
 else match kbu op n bl kl with
 | none=>false
 | some r=>qeV n bl kl as.length r
section
variable {L:Lib} (hL:Plain L)
theorem qqW (op n:Int) (binds kids:List Int) (as:List CAlt) (k b:Int) (u:Bool) (tm:Tmps) (h1:tm 1=.ptr (some (0,0))) (h3:tm 3=.int .i64 k) (h4:tm 4=.int .i64 b) (h5:tm 5=.bool u) :
  qnS (qaR [.tmp 2] (qbJ L.pure (call L) qhY ⟨tm,[.box [.int .i64 op,.int .i64 n,.list (binds.map qaP) none,.list (kids.map qaP) none,.list (as.map qaM) none]]⟩)) =
   some (.val (.bool (qeV n binds.length kids.length as.length (k,b,u)))):=by
 unfold qeV
 cases e1:((kids.length:Int)==k) with
 | false=>unfold qhY;simp -implicitDefEqProofs only[qad,qae,qax,qab,qaC,qah,aOp,opd,qai,qag,qbh,qco,qbg,qaj,qaA,qaF,qaK,qaR,qas,qaB,qaI,qbf,qcI,List.length_map,List.getElem?_cons_zero,List.getElem?_cons_succ,↓reduceIte,Bool.false_and,Bool.false_eq_true,Nat.zero_add,Nat.reduceEqDiff,qaD,h1,h3,h4,h5,e1]
 | true =>
   cases e2:((binds.length:Int)==b) with
   | false=>unfold qhY;simp -implicitDefEqProofs only[qad,qae,qax,qab,qaC,qah,aOp,opd,qai,qag,qbh,qco,qbg,qaj,qaA,qaF,qaK,qaR,qas,qaB,qaI,qbf,qcI,beq_self_eq_true,List.length_map,List.getElem?_cons_zero,List.getElem?_cons_succ,↓reduceIte,Bool.and_false,Bool.false_and,Bool.false_eq_true,Nat.zero_add,Nat.reduceEqDiff,qaD,h1,h3,h4,h5,e1,e2]
   | true =>
     cases e3:((as.length:Int)==0) with
     | false=>unfold qhY;simp -implicitDefEqProofs only[qad,qae,qax,qab,qaC,qah,aOp,opd,qai,qag,qbh,qco,qbg,qaj,qaA,qaF,qaK,qaR,qas,qaB,qaI,qbf,qcI,beq_self_eq_true,List.length_map,List.getElem?_cons_zero,List.getElem?_cons_succ,↓reduceIte,Bool.and_true,Bool.and_false,Bool.false_and,Bool.false_eq_true,Nat.zero_add,Nat.reduceEqDiff,qaD,h1,h3,h4,h5,e1,e2,e3]
     | true=>cases u<;>unfold qhY<;>simp -implicitDefEqProofs only[qad,qae,qax,qab,qaC,qah,aOp,opd,qai,qag,qbh,qco,qbg,qaj,qaA,qaF,qaK,qaR,qas,qaB,qaI,qbf,qdj,beq_self_eq_true,List.length_map,List.getElem?_cons_zero,List.getElem?_cons_succ,↓reduceIte,Bool.and_true,Bool.true_and,Bool.true_or,Bool.false_or,Bool.false_eq_true,Nat.zero_add,Nat.reduceEqDiff,qaD,h1,h3,h4,h5,e1,e2,e3]
include hL
theorem quT (h265:L.fns 265=some fn265) (h264:L.fns 264=some fn264) (h266:L.fns 266=some fn266) (h258:L.fns 258=some fn258) (h259:L.fns 259=some fn259) (h234:L.fns 234=some fn234)
  (op n:Int) (binds kids:List Int) (as:List CAlt) (hl:as.length<2 ^ 30) (hbl:binds.length<2 ^ 30) (h:Heap) :
  pcall L 234 [.agg [.int .i64 op,.int .i64 n,.list (binds.map qaP) none,.list (kids.map qaP) none,.list (as.map qaM) none]] h=some (.val (.bool (qcz op n binds.length kids.length as)),h):=by
 have hp:=hL.pure
 refine qbH hL h234 rfl ?_ h
 have hal:=qvl hL h265 h264 h266 h258 op n binds kids as hl
 have hbt:=qeZ hL h259 n 0 11
 have hw:IntKind.i64.wrap ((binds.length:Int)+1)=(binds.length:Int)+1:=qd3 (by omega) (by omega)
 have hm1:=qfM 1 (kids.length:Int)
 have hm2:=qfM 1 (binds.length:Int)
 have T:=qqW (L:=L) op n binds kids as
 unfold fn234
 generalize qhY=t at *
 by_cases h0:op=0
 ·subst h0;simp -implicitDefEqProofs only[qaq,qad,qae,qaf,qao,qab,qah,aOp,opd,qai,qan,qag,qbh,qbg,qaj,qaF,qaK,qaw,qaR,qas,qaB,qaI,beq_self_eq_true,Option.getD_some,List.length_nil,List.nil_append,List.getElem?_cons_zero,↓reduceIte,Bool.false_eq_true,Nat.add_zero,Nat.reduceEqDiff,hw,hm1,hm2];exact T _ _ _ _ (by simp -implicitDefEqProofs only[qai,↓reduceIte,Nat.reduceEqDiff]) (by simp -implicitDefEqProofs only[qai,↓reduceIte,Nat.reduceEqDiff]) (by simp -implicitDefEqProofs only[qai,↓reduceIte,Nat.reduceEqDiff]) (by simp -implicitDefEqProofs only[qai,↓reduceIte])
 by_cases h1:op=1
 ·subst h1;simp -implicitDefEqProofs only[qaq,qad,qae,qaf,qao,qab,qah,aOp,opd,qai,qan,qag,qbh,qbg,qaj,qaF,qaK,qaw,qaR,qas,qaB,qaI,beq_self_eq_true,Option.getD_some,List.length_nil,List.nil_append,List.getElem?_cons_zero,↓reduceIte,Bool.false_eq_true,Nat.add_zero,Nat.reduceEqDiff,Int.reduceBEq,hw,hm1,hm2];exact T _ _ _ _ (by simp -implicitDefEqProofs only[qai,↓reduceIte,Nat.reduceEqDiff]) (by simp -implicitDefEqProofs only[qai,↓reduceIte,Nat.reduceEqDiff]) (by simp -implicitDefEqProofs only[qai,↓reduceIte,Nat.reduceEqDiff]) (by simp -implicitDefEqProofs only[qai,↓reduceIte])
 by_cases h2:op=2
 ·subst h2;simp -implicitDefEqProofs only[qad,qa5,qae,qaf,qao,qab,qah,aOp,opd,qai,qan,qag,qbh,qco,qbg,qaj,qaA,qaF,qaK,qaw,qaR,qas,qaB,qaI,qbz,qbo,qa7,qbx,beq_self_eq_true,Option.getD_some,List.length_nil,List.length_map,List.nil_append,List.getElem?_cons_zero,List.getElem?_cons_succ,↓reduceIte,Bool.false_eq_true,Nat.add_zero,Nat.zero_add,Nat.reduceEqDiff,qaO,qa6,Int.reduceBEq,hw,hm1,hm2];exact T _ _ _ _ (by simp -implicitDefEqProofs only[qai,↓reduceIte,Nat.reduceEqDiff]) (by simp -implicitDefEqProofs only[qai,↓reduceIte,Nat.reduceEqDiff]) (by simp -implicitDefEqProofs only[qai,↓reduceIte]) (by simp -implicitDefEqProofs only[qai,↓reduceIte,Nat.reduceEqDiff])
 by_cases h3:op=3
 ·subst h3;simp -implicitDefEqProofs only[qad,qae,qaf,qao,qab,qah,aOp,opd,qai,qan,qag,qbh,qco,qbg,qaj,qaF,qaK,qaw,qaR,qas,qaB,qaI,beq_self_eq_true,Option.getD_some,List.map_cons,List.map_nil,List.length_nil,List.length_map,List.nil_append,List.getElem?_cons_zero,List.getElem?_cons_succ,↓reduceIte,Bool.false_eq_true,Nat.add_zero,Nat.zero_add,Nat.reduceEqDiff,Int.reduceBEq,hw,hm1,hm2];exact T _ _ _ _ (by simp -implicitDefEqProofs only[qai,↓reduceIte,Nat.reduceEqDiff]) (by simp -implicitDefEqProofs only[qai,↓reduceIte]) (by simp -implicitDefEqProofs only[qai,↓reduceIte,Nat.reduceEqDiff]) (by simp -implicitDefEqProofs only[qai,↓reduceIte,Nat.reduceEqDiff])
 by_cases h4:op=4
 ·subst h4;simp -implicitDefEqProofs only[qad,qae,qaf,qao,qab,qah,aOp,opd,qai,qan,qag,qbh,qbg,qaj,qaF,qaK,qaw,qaR,qas,qaB,qaI,beq_self_eq_true,Option.getD_some,List.length_nil,List.nil_append,List.getElem?_cons_zero,↓reduceIte,Bool.false_eq_true,Nat.add_zero,Nat.reduceEqDiff,Int.reduceBEq,hw,hm1,hm2];exact T _ _ _ _ (by simp -implicitDefEqProofs only[qai,↓reduceIte,Nat.reduceEqDiff]) (by simp -implicitDefEqProofs only[qai,↓reduceIte,Nat.reduceEqDiff]) (by simp -implicitDefEqProofs only[qai,↓reduceIte]) (by simp -implicitDefEqProofs only[qai,↓reduceIte,Nat.reduceEqDiff])
 by_cases h5:op=5
 ·subst h5;simp -implicitDefEqProofs only[qad,qa5,qae,qaf,qao,qab,qah,aOp,opd,qai,qan,qag,qbh,qco,qbg,qaj,qaA,qaF,qaK,qaw,qaR,qas,qaB,qaI,qbz,qbo,qa7,qbx,beq_self_eq_true,Option.getD_some,List.map_cons,List.map_nil,List.length_nil,List.length_map,List.nil_append,List.getElem?_cons_zero,List.getElem?_cons_succ,↓reduceIte,Bool.false_eq_true,Nat.add_zero,Nat.zero_add,Nat.reduceEqDiff,qaO,qa6,Int.reduceBEq,hw,hm1,hm2];exact T _ _ _ _ (by simp -implicitDefEqProofs only[qai,↓reduceIte,Nat.reduceEqDiff]) (by simp -implicitDefEqProofs only[qai,↓reduceIte,Nat.reduceEqDiff]) (by simp -implicitDefEqProofs only[qai,↓reduceIte]) (by simp -implicitDefEqProofs only[qai,↓reduceIte,Nat.reduceEqDiff])
 by_cases h6:op=6
 ·subst h6;simp -implicitDefEqProofs only[qad,qae,qaf,qao,qab,qah,aOp,opd,qai,qan,qag,qbh,qco,qbg,qaj,qaF,qaK,qaw,qaR,qas,qaB,qaI,beq_self_eq_true,Option.getD_some,List.length_nil,List.length_map,List.nil_append,List.getElem?_cons_zero,List.getElem?_cons_succ,↓reduceIte,Bool.false_eq_true,Nat.add_zero,Nat.zero_add,Nat.reduceEqDiff,Int.reduceBEq,hw,hm1,hm2];exact T _ _ _ _ (by simp -implicitDefEqProofs only[qai,↓reduceIte,Nat.reduceEqDiff]) (by simp -implicitDefEqProofs only[qai,↓reduceIte,Nat.reduceEqDiff]) (by simp -implicitDefEqProofs only[qai,↓reduceIte,Nat.reduceEqDiff]) (by simp -implicitDefEqProofs only[qai,↓reduceIte])
 by_cases h7:op=7
 ·subst h7
  unfold qcz
  rw[if_pos (by decide)]
  cases ha:qic 7 as kids.length with
  | false=>rw[ha] at hal;simp -implicitDefEqProofs only[qaq,qad,qae,qaf,qao,qax,qab,qaC,qah,aOp,opd,qai,qan,qag,qbh,qbg,qaj,qaA,qaF,qbG,qaK,qaw,qaR,qas,qaB,qaI,qcj,qbf,qba,qbs,qaa,qal,qcd,qap,qak,qcI,beq_self_eq_true,Option.map_some,Option.getD_some,List.map_cons,List.map_nil,List.length_cons,List.length_nil,List.nil_append,List.getElem?_cons_zero,List.take_succ_cons,List.drop_zero,List.take_nil,↓reduceIte,Bool.and_true,Bool.false_and,Bool.false_eq_true,and_self,Nat.le_refl,Nat.add_zero,Nat.zero_add,Nat.reduceEqDiff,Nat.reduceAdd,Int.reduceBEq,qa4,qaD,qar,qaG,hal,qaJ L hp,hp]
  | true =>
    rw[ha] at hal
    cases hb:((binds.length:Int)==0) with
    | false=>simp -implicitDefEqProofs only[qaq,qad,qae,qaf,qao,qax,qab,qaC,qah,aOp,opd,qai,qan,qag,qbh,qco,qbg,qaj,qaA,qaF,qbG,qaK,qaw,qaR,qas,qaB,qaI,qcj,qbf,qba,qbs,qaa,qal,qcd,qap,qak,qcI,beq_self_eq_true,Option.map_some,Option.getD_some,List.map_cons,List.map_nil,List.length_cons,List.length_nil,List.length_map,List.nil_append,List.getElem?_cons_zero,List.getElem?_cons_succ,List.take_succ_cons,List.drop_zero,List.take_nil,↓reduceIte,Bool.and_true,Bool.and_false,Bool.false_and,Bool.false_eq_true,and_self,Nat.le_refl,Nat.add_zero,Nat.zero_add,Nat.reduceEqDiff,Nat.reduceAdd,Int.reduceBEq,qa4,qaD,qar,qaG,hal,hb,qaJ L hp,hp]
    | true=>simp -implicitDefEqProofs only[qaq,qad,qae,qaf,qao,qax,qab,qaC,qah,aOp,opd,qai,qan,qag,qbh,qco,qbg,qaj,qaA,qaF,qbG,qaK,qaw,qaR,qas,qaB,qaI,qcj,qbf,qba,qbs,qaa,qal,qcd,qap,qak,beq_self_eq_true,Option.map_some,Option.getD_some,List.map_cons,List.map_nil,List.length_cons,List.length_nil,List.length_map,List.nil_append,List.getElem?_cons_zero,List.getElem?_cons_succ,List.take_succ_cons,List.drop_zero,List.take_nil,↓reduceIte,Bool.and_true,Bool.true_and,Bool.false_eq_true,and_self,Nat.le_refl,Nat.add_zero,Nat.zero_add,Nat.reduceEqDiff,Nat.reduceAdd,Int.reduceBEq,qa4,qaD,qar,qaG,hal,hb,qaJ L hp,hp]
 by_cases h8:op=8
 ·subst h8
  by_cases hr:0≤n∧n≤11
  ·rw[decide_eq_true hr] at hbt
   obtain⟨m,rfl⟩:∃ m:Nat,n=m:=⟨n.toNat,by omega⟩
   have hi:((m:Int)<12):=by omega
   have e:qcz 8 m binds.length kids.length as=qeV m binds.length kids.length as.length (qoE m,0,true):=by
    unfold qcz kbu
    simp only[hr,if_true,show ¬ ((8:Int)=7∨(8:Int)=13) by decide,show ¬ ((8:Int)=0∨(8:Int)=1∨(8:Int)=17) by decide,if_false,show ¬ (8:Int)=2 by decide,show ¬ (8:Int)=3 by decide,show ¬ (8:Int)=4 by decide,show ¬ (8:Int)=5 by decide,show ¬ (8:Int)=6 by decide,and_self]
   rw[e]
   have hm:m=0∨m=1∨m=2∨m=3∨m=4∨m=5∨m=6∨m=7∨m=8∨m=9∨m=10∨m=11:=by omega
   have ha:([.int .i64 2,.int .i64 2,.int .i64 2,.int .i64 2,.int .i64 2,.int .i64 2,.int .i64 2,.int .i64 1,.int .i64 2,.int .i64 1,.int .i64 2,.int .i64 3]:List AVal)[m]? = some (.int .i64 (qoE m)):=by
    rcases hm with rfl | rfl | rfl | rfl | rfl | rfl | rfl | rfl | rfl | rfl | rfl | rfl<;>rfl
   generalize hR:([.int .i64 2,.int .i64 2,.int .i64 2,.int .i64 2,.int .i64 2,.int .i64 2,.int .i64 2,.int .i64 1,.int .i64 2,.int .i64 1,.int .i64 2,.int .i64 3]:List AVal)=R at *
   simp -implicitDefEqProofs only[qaq,qad,qae,qaf,qao,qab,qah,aOp,opd,qai,qan,qag,qbh,qbg,aUn,qaj,qaF,qaK,qaw,qaR,qas,qaB,qaI,qby,qal,qap,qak,beq_self_eq_true,Option.getD_some,List.map_cons,List.map_nil,List.length_nil,List.nil_append,List.getElem?_cons_zero,List.getElem?_cons_succ,↓reduceIte,Bool.and_true,Bool.not_true,Bool.false_eq_true,and_self,Nat.add_zero,Nat.zero_add,Nat.reduceEqDiff,Int.toNat_natCast,Int.natCast_nonneg,qh8,Int.reduceBEq,Int.cast_ofNat_Int,qa4,Nat.mul_one,hbt,hi,ha,Nat.mul_one,qaJ L hp,hp]
   exact T _ _ _ _ (by simp -implicitDefEqProofs only[qai,↓reduceIte,Nat.reduceEqDiff]) (by simp -implicitDefEqProofs only[qai,↓reduceIte,Nat.reduceEqDiff]) (by simp -implicitDefEqProofs only[qai,↓reduceIte,Nat.reduceEqDiff]) (by simp -implicitDefEqProofs only[qai,↓reduceIte])
  ·rw[decide_eq_false hr] at hbt
   have e:qcz 8 n binds.length kids.length as=false:=by
    unfold qcz kbu
    simp only[hr,if_true,show ¬ ((8:Int)=7∨(8:Int)=13) by decide,show ¬ ((8:Int)=0∨(8:Int)=1∨(8:Int)=17) by decide,if_false,show ¬ (8:Int)=2 by decide,show ¬ (8:Int)=3 by decide,show ¬ (8:Int)=4 by decide,show ¬ (8:Int)=5 by decide,show ¬ (8:Int)=6 by decide]
   rw[e]
   simp -implicitDefEqProofs only[qad,qae,qaf,qao,qax,qab,qah,aOp,opd,qai,qan,qag,qbh,qbg,aUn,qaj,qaF,qaK,qaw,qaR,qas,qaB,qaI,qby,qbf,qal,qap,qak,beq_self_eq_true,Option.getD_some,List.map_cons,List.map_nil,List.length_nil,List.nil_append,List.getElem?_cons_zero,List.getElem?_cons_succ,↓reduceIte,Bool.and_true,Bool.not_false,Bool.false_eq_true,and_self,Nat.add_zero,Nat.zero_add,Nat.reduceEqDiff,Int.reduceBEq,qa4,qaD,hbt,qaJ L hp,hp]
 by_cases h9:op=9
 ·subst h9;simp -implicitDefEqProofs only[qad,qa5,qae,qaf,qao,qab,qah,aOp,opd,qai,qan,qag,qbh,qco,qbg,qaj,qaA,qaF,qaK,qaw,qaR,qas,qaB,qaI,qbz,qbo,qa7,qbx,beq_self_eq_true,Option.getD_some,List.length_nil,List.length_map,List.nil_append,List.getElem?_cons_zero,List.getElem?_cons_succ,↓reduceIte,Bool.false_eq_true,Nat.add_zero,Nat.zero_add,Nat.reduceEqDiff,qaO,qa6,Int.reduceBEq,hw,hm1,hm2];exact T _ _ _ _ (by simp -implicitDefEqProofs only[qai,↓reduceIte,Nat.reduceEqDiff]) (by simp -implicitDefEqProofs only[qai,↓reduceIte,Nat.reduceEqDiff]) (by simp -implicitDefEqProofs only[qai,↓reduceIte]) (by simp -implicitDefEqProofs only[qai,↓reduceIte,Nat.reduceEqDiff])
 by_cases h10:op=10
 ·subst h10;simp -implicitDefEqProofs only[qaq,qad,qae,qaf,qao,qab,qah,aOp,opd,qai,qan,qag,qbh,qbg,qaj,qaF,qaK,qaw,qaR,qas,qaB,qaI,beq_self_eq_true,Option.getD_some,List.length_nil,List.nil_append,List.getElem?_cons_zero,↓reduceIte,Bool.false_eq_true,Nat.add_zero,Nat.reduceEqDiff,Int.reduceBEq,hw,hm1,hm2];exact T _ _ _ _ (by simp -implicitDefEqProofs only[qai,↓reduceIte,Nat.reduceEqDiff]) (by simp -implicitDefEqProofs only[qai,↓reduceIte,Nat.reduceEqDiff]) (by simp -implicitDefEqProofs only[qai,↓reduceIte,Nat.reduceEqDiff]) (by simp -implicitDefEqProofs only[qai,↓reduceIte])
 by_cases h11:op=11
 ·subst h11;simp -implicitDefEqProofs only[qad,qae,qaf,qao,qab,qah,aOp,opd,qai,qan,qag,qbh,qbg,qaj,qaF,qaK,qaw,qaR,qas,qaB,qaI,beq_self_eq_true,Option.getD_some,List.length_nil,List.nil_append,List.getElem?_cons_zero,↓reduceIte,Bool.false_eq_true,Nat.add_zero,Nat.reduceEqDiff,Int.reduceBEq,hw,hm1,hm2];exact T _ _ _ _ (by simp -implicitDefEqProofs only[qai,↓reduceIte,Nat.reduceEqDiff]) (by simp -implicitDefEqProofs only[qai,↓reduceIte,Nat.reduceEqDiff]) (by simp -implicitDefEqProofs only[qai,↓reduceIte,Nat.reduceEqDiff]) (by simp -implicitDefEqProofs only[qai,↓reduceIte])
 by_cases h12:op=12
 ·subst h12;simp -implicitDefEqProofs only[qad,qae,qaf,qao,qab,qah,aOp,opd,qai,qan,qag,qbh,qbg,qaj,qaF,qaK,qaw,qaR,qas,qaB,qaI,beq_self_eq_true,Option.getD_some,List.length_nil,List.nil_append,List.getElem?_cons_zero,↓reduceIte,Bool.false_eq_true,Nat.add_zero,Nat.reduceEqDiff,Int.reduceBEq,hw,hm1,hm2];exact T _ _ _ _ (by simp -implicitDefEqProofs only[qai,↓reduceIte,Nat.reduceEqDiff]) (by simp -implicitDefEqProofs only[qai,↓reduceIte,Nat.reduceEqDiff]) (by simp -implicitDefEqProofs only[qai,↓reduceIte,Nat.reduceEqDiff]) (by simp -implicitDefEqProofs only[qai,↓reduceIte])
 by_cases h13:op=13
 ·subst h13
  unfold qcz
  rw[if_pos (by decide)]
  cases ha:qic 13 as kids.length with
  | false=>rw[ha] at hal;simp -implicitDefEqProofs only[qad,qae,qaf,qao,qax,qab,qaC,qah,aOp,opd,qai,qan,qag,qbh,qbg,qaj,qaA,qaF,qbG,qaK,qaw,qaR,qas,qaB,qaI,qcj,qbf,qba,qbs,qaa,qal,qcd,qap,qak,qcI,beq_self_eq_true,Option.map_some,Option.getD_some,List.map_cons,List.map_nil,List.length_cons,List.length_nil,List.nil_append,List.getElem?_cons_zero,List.take_succ_cons,List.drop_zero,List.take_nil,↓reduceIte,Bool.and_true,Bool.false_and,Bool.false_eq_true,and_self,Nat.le_refl,Nat.add_zero,Nat.zero_add,Nat.reduceEqDiff,Nat.reduceAdd,Int.reduceBEq,qa4,qaD,qar,qaG,hal,qaJ L hp,hp]
  | true =>
    rw[ha] at hal
    cases hb:((binds.length:Int)==0) with
    | false=>simp -implicitDefEqProofs only[qad,qae,qaf,qao,qax,qab,qaC,qah,aOp,opd,qai,qan,qag,qbh,qco,qbg,qaj,qaA,qaF,qbG,qaK,qaw,qaR,qas,qaB,qaI,qcj,qbf,qba,qbs,qaa,qal,qcd,qap,qak,qcI,beq_self_eq_true,Option.map_some,Option.getD_some,List.map_cons,List.map_nil,List.length_cons,List.length_nil,List.length_map,List.nil_append,List.getElem?_cons_zero,List.getElem?_cons_succ,List.take_succ_cons,List.drop_zero,List.take_nil,↓reduceIte,Bool.and_true,Bool.and_false,Bool.false_and,Bool.false_eq_true,and_self,Nat.le_refl,Nat.add_zero,Nat.zero_add,Nat.reduceEqDiff,Nat.reduceAdd,Int.reduceBEq,qa4,qaD,qar,qaG,hal,hb,qaJ L hp,hp]
    | true=>simp -implicitDefEqProofs only[qad,qae,qaf,qao,qax,qab,qaC,qah,aOp,opd,qai,qan,qag,qbh,qco,qbg,qaj,qaA,qaF,qbG,qaK,qaw,qaR,qas,qaB,qaI,qcj,qbf,qba,qbs,qaa,qal,qcd,qap,qak,beq_self_eq_true,Option.map_some,Option.getD_some,List.map_cons,List.map_nil,List.length_cons,List.length_nil,List.length_map,List.nil_append,List.getElem?_cons_zero,List.getElem?_cons_succ,List.take_succ_cons,List.drop_zero,List.take_nil,↓reduceIte,Bool.and_true,Bool.true_and,Bool.false_eq_true,and_self,Nat.le_refl,Nat.add_zero,Nat.zero_add,Nat.reduceEqDiff,Nat.reduceAdd,Int.reduceBEq,qa4,qaD,qar,qaG,hal,hb,qaJ L hp,hp]
 by_cases h14:op=14
 ·subst h14;simp -implicitDefEqProofs only[qaq,qad,qae,qaf,qao,qab,qah,aOp,opd,qai,qan,qag,qbh,qco,qbg,qaj,qaF,qaK,qaw,qaR,qas,qaB,qaI,beq_self_eq_true,Option.getD_some,List.length_nil,List.length_map,List.nil_append,List.getElem?_cons_zero,List.getElem?_cons_succ,↓reduceIte,Bool.false_eq_true,Nat.add_zero,Nat.zero_add,Nat.reduceEqDiff,Int.reduceBEq,hw,hm1,hm2];exact T _ _ _ _ (by simp -implicitDefEqProofs only[qai,↓reduceIte,Nat.reduceEqDiff]) (by simp -implicitDefEqProofs only[qai,↓reduceIte,Nat.reduceEqDiff]) (by simp -implicitDefEqProofs only[qai,↓reduceIte,Nat.reduceEqDiff]) (by simp -implicitDefEqProofs only[qai,↓reduceIte])
 by_cases h15:op=15
 ·subst h15;simp -implicitDefEqProofs only[qad,qae,qaf,qao,qab,qah,aOp,opd,qai,qan,qag,qbh,qco,qbg,qaj,qaF,qaK,qaw,qaR,qas,qaB,qaI,beq_self_eq_true,Option.getD_some,List.length_nil,List.length_map,List.nil_append,List.getElem?_cons_zero,List.getElem?_cons_succ,↓reduceIte,Bool.false_eq_true,Nat.add_zero,Nat.zero_add,Nat.reduceEqDiff,Int.reduceBEq,hw,hm1,hm2];exact T _ _ _ _ (by simp -implicitDefEqProofs only[qai,↓reduceIte,Nat.reduceEqDiff]) (by simp -implicitDefEqProofs only[qai,↓reduceIte,Nat.reduceEqDiff]) (by simp -implicitDefEqProofs only[qai,↓reduceIte,Nat.reduceEqDiff]) (by simp -implicitDefEqProofs only[qai,↓reduceIte])
 by_cases h16:op=16
 ·subst h16;simp -implicitDefEqProofs only[qad,qae,qaf,qao,qab,qah,aOp,opd,qai,qan,qag,qbh,qbg,qaj,qaF,qaK,qaw,qaR,qas,qaB,qaI,beq_self_eq_true,Option.getD_some,List.length_nil,List.nil_append,List.getElem?_cons_zero,↓reduceIte,Bool.false_eq_true,Nat.add_zero,Nat.reduceEqDiff,Int.reduceBEq,hw,hm1,hm2];exact T _ _ _ _ (by simp -implicitDefEqProofs only[qai,↓reduceIte,Nat.reduceEqDiff]) (by simp -implicitDefEqProofs only[qai,↓reduceIte,Nat.reduceEqDiff]) (by simp -implicitDefEqProofs only[qai,↓reduceIte,Nat.reduceEqDiff]) (by simp -implicitDefEqProofs only[qai,↓reduceIte])
 by_cases h17:op=17
 ·subst h17;simp -implicitDefEqProofs only[qad,qae,qaf,qao,qab,qah,aOp,opd,qai,qan,qag,qbh,qbg,qaj,qaF,qaK,qaw,qaR,qas,qaB,qaI,beq_self_eq_true,Option.getD_some,List.length_nil,List.nil_append,List.getElem?_cons_zero,↓reduceIte,Bool.false_eq_true,Nat.add_zero,Nat.reduceEqDiff,Int.reduceBEq,hw,hm1,hm2];exact T _ _ _ _ (by simp -implicitDefEqProofs only[qai,↓reduceIte,Nat.reduceEqDiff]) (by simp -implicitDefEqProofs only[qai,↓reduceIte,Nat.reduceEqDiff]) (by simp -implicitDefEqProofs only[qai,↓reduceIte,Nat.reduceEqDiff]) (by simp -implicitDefEqProofs only[qai,↓reduceIte])
 have e:qcz op n binds.length kids.length as=false:=by
  unfold qcz kbu
  simp only[h0,h1,h2,h3,h4,h5,h6,h7,h8,h9,h10,h11,h12,h13,h14,h15,h16,h17,or_self,if_false]
 rw[e]
 have g0:(op==0)=false:=by simpa using h0
 have g1:(op==1)=false:=by simpa using h1
 have g2:(op==2)=false:=by simpa using h2
 have g3:(op==3)=false:=by simpa using h3
 have g4:(op==4)=false:=by simpa using h4
 have g5:(op==5)=false:=by simpa using h5
 have g6:(op==6)=false:=by simpa using h6
 have g7:(op==7)=false:=by simpa using h7
 have g8:(op==8)=false:=by simpa using h8
 have g9:(op==9)=false:=by simpa using h9
 have g10:(op==10)=false:=by simpa using h10
 have g11:(op==11)=false:=by simpa using h11
 have g12:(op==12)=false:=by simpa using h12
 have g13:(op==13)=false:=by simpa using h13
 have g14:(op==14)=false:=by simpa using h14
 have g15:(op==15)=false:=by simpa using h15
 have g16:(op==16)=false:=by simpa using h16
 have g17:(op==17)=false:=by simpa using h17
 simp -implicitDefEqProofs only[qad,qae,qaf,qao,qax,qab,qah,aOp,opd,qai,qan,qag,qbh,qbg,qaj,qaF,qaK,qaw,qaR,qas,qaB,qaI,qbf,Option.getD_some,List.length_nil,List.nil_append,List.getElem?_cons_zero,↓reduceIte,Bool.false_eq_true,Nat.add_zero,Nat.reduceEqDiff,qaD,g0,g1,g2,g3,g4,g5,g6,g7,g8,g9,g10,g11,g12,g13,g14,g15,g16,g17]
end
def qoZ (op:Int):Int × Int :=
 if op=1 then (-1073741824,1073741823) else if op=6 then (0,255) else if op=17 then (1,6) else if op=16 then (0,15) else (0,1048575)
def qeS (n:Int):Bool := !decide (0≤n∧n≤1048575)
theorem qlH {n:Int} (h:qeS n=true):decide (0≤n∧n≤1048575)=false:=by
 unfold qeS at h
 cases hd:decide (0≤n∧n≤1048575) with
 | false=>rfl
 | true=>rw[hd] at h;cases h
def qcZ (op:Int) (a:CAlt):Bool:=(decide (255<a.tag) && op==7) || decide (1048576≤a.tag) || a.binds.any qeS
def qbX (b:Int) (as:List CAlt):Int:=as.foldl (fun m a=>max m (a.binds.length:Int)) b
def qk8 (op f:Int) (kl:Nat):Bool :=
 decide ((if op=2 then 6 else 16)<f) || ((op==6 || op==15) && decide (16<(kl:Int))) || (op==3 && decide (7<(kl:Int))) || (op==14 && decide (6<(kl:Int)))
def qcP (op n:Int) (binds:List Int) (kl:Nat) (as:List CAlt):Int :=
 if ¬ ((qoZ op).1≤n∧n≤(qoZ op).2) then 4
 else if binds.any qeS=true then 4
 else if as.any (qcZ op)=true then 4
 else if qk8 op (qbX binds.length as) kl=true then 2 else 0
theorem qil {α β:Type} (p:α→Bool) (r:Nat→β):∀ (xs:List α) (k:Nat),(qbr (fun i a=>if p a=true then some (r i) else none) xs k).isSome=xs.any p
 | [],k=>rfl
 | x :: xs,k => by
   rw[qbr,List.any_cons]
   cases hp:p x
   ·simp only[Bool.false_eq_true,if_false,Bool.false_or]
    exact qil p r xs (k+1)
   ·rfl
section
variable {L:Lib} (hL:Plain L)
theorem qo9 (op n:Int) (binds kids:List Int) (as:List CAlt) (f:Int) (tm:Tmps) (h1:tm 1=.ptr (some (0,0))) (h5:tm 5=.int .i64 f) :
  qnS (qaR [.tmp 2] (qbJ L.pure (call L) qjU ⟨tm,[.box [.int .i64 op,.int .i64 n,.list (binds.map qaP) none,.list (kids.map qaP) none,.list (as.map qaM) none]]⟩)) =
   some (.val (.int .i64 (if qk8 op f kids.length=true then 2 else 0))):=by
 unfold qk8 qjU
 by_cases h2:op=2
 ·subst h2
  by_cases hf:6<f<;>simp -implicitDefEqProofs only[qaq,qad,qae,qaf,qax,qab,qaC,qah,aOp,opd,qai,qag,qbh,qbg,qaj,qaA,qaF,qaK,qaR,qas,qaB,qaI,qbA,qdj,qcI,beq_self_eq_true,List.getElem?_cons_zero,↓reduceIte,Bool.false_and,Bool.or_false,Bool.false_eq_true,decide_true,decide_false,Nat.add_zero,Nat.reduceEqDiff,Int.reduceBEq,gt_iff_lt,qaD,h1,h5,hf]
 ·have e2:(op==2)=false:=by simpa using h2
  by_cases hf:16<f
  ·simp -implicitDefEqProofs only[qaq,qad,qae,qaf,qax,qab,qaC,qah,aOp,opd,qai,qag,qbh,qbg,qaj,qaA,qaF,qaK,qaR,qas,qaB,qaI,qbA,qdj,List.getElem?_cons_zero,↓reduceIte,Bool.true_or,Bool.false_eq_true,decide_true,Nat.add_zero,Nat.reduceEqDiff,gt_iff_lt,qaD,h1,h5,hf,h2,e2]
  ·by_cases h6:op=6
   ·subst h6
    by_cases hk:(16:Int)<kids.length<;>simp -implicitDefEqProofs only[qaq,qad,qae,qaf,qax,qab,qaC,qah,aOp,opd,qai,qag,qbh,qco,qbg,qaj,qaA,qaF,qaK,qaR,qas,qaB,qaI,qbA,qdj,qcI,beq_self_eq_true,List.length_map,List.getElem?_cons_zero,List.getElem?_cons_succ,↓reduceIte,Bool.and_true,Bool.and_false,Bool.false_and,Bool.or_true,Bool.or_false,Bool.false_eq_true,decide_true,decide_false,Nat.add_zero,Nat.zero_add,Nat.reduceEqDiff,Int.reduceEq,Int.reduceBEq,gt_iff_lt,qaD,h1,h5,hf,hk]
   ·by_cases h15:op=15
    ·subst h15
     by_cases hk:(16:Int)<kids.length<;>simp -implicitDefEqProofs only[qaq,qad,qae,qaf,qax,qab,qaC,qah,aOp,opd,qai,qag,qbh,qco,qbg,qaj,qaA,qaF,qaK,qaR,qas,qaB,qaI,qbA,qdj,qcI,beq_self_eq_true,List.length_map,List.getElem?_cons_zero,List.getElem?_cons_succ,↓reduceIte,Bool.and_true,Bool.and_false,Bool.false_and,Bool.or_true,Bool.or_false,Bool.false_eq_true,decide_true,decide_false,Nat.add_zero,Nat.zero_add,Nat.reduceEqDiff,Int.reduceEq,Int.reduceBEq,gt_iff_lt,qaD,h1,h5,hf,hk]
    ·by_cases h3:op=3
     ·subst h3
      by_cases hk:(7:Int)<kids.length<;>simp -implicitDefEqProofs only[qaq,qad,qae,qaf,qax,qab,qaC,qah,aOp,opd,qai,qag,qbh,qco,qbg,qaj,qaA,qaF,qaK,qaR,qas,qaB,qaI,qbA,qdj,qcI,beq_self_eq_true,List.length_map,List.getElem?_cons_zero,List.getElem?_cons_succ,↓reduceIte,Bool.and_true,Bool.and_false,Bool.false_and,Bool.or_true,Bool.or_false,Bool.false_eq_true,decide_true,decide_false,Nat.add_zero,Nat.zero_add,Nat.reduceEqDiff,Int.reduceEq,Int.reduceBEq,gt_iff_lt,qaD,h1,h5,hf,hk]
     ·by_cases h14:op=14
      ·subst h14
       by_cases hk:(6:Int)<kids.length<;>simp -implicitDefEqProofs only[qaq,qad,qae,qaf,qax,qab,qaC,qah,aOp,opd,qai,qag,qbh,qco,qbg,qaj,qaA,qaF,qaK,qaR,qas,qaB,qaI,qbA,qcI,beq_self_eq_true,List.length_map,List.getElem?_cons_zero,List.getElem?_cons_succ,↓reduceIte,Bool.and_true,Bool.and_false,Bool.false_and,Bool.or_true,Bool.or_false,Bool.false_eq_true,decide_true,decide_false,Nat.add_zero,Nat.zero_add,Nat.reduceEqDiff,Int.reduceEq,Int.reduceBEq,gt_iff_lt,qaD,h1,h5,hf,hk]
      ·have e6:(op==6)=false:=by simpa using h6
       have e15:(op==15)=false:=by simpa using h15
       have e3:(op==3)=false:=by simpa using h3
       have e14:(op==14)=false:=by simpa using h14
       simp -implicitDefEqProofs only[qaq,qad,qae,qaf,qax,qab,qaC,qah,aOp,opd,qai,qag,qbh,qbg,qaj,qaA,qaF,qaK,qaR,qas,qaB,qaI,qbA,qcI,beq_self_eq_true,List.getElem?_cons_zero,↓reduceIte,Bool.false_and,Bool.or_false,Bool.false_eq_true,decide_false,Nat.add_zero,Nat.reduceEqDiff,gt_iff_lt,qaD,h1,h5,hf,h2,e2,e6,e15,e3,e14]
include hL
theorem qsu (h259:L.fns 259=some fn259) (op n:Int) (binds kids:List Int) (as:List CAlt) (hb:binds.length<2 ^ 30) (f:Int) : 
  qcg L.pure (call L) 1 [1,5,33,34,35] [1,2,5] 1 qis ⟨kt [1,5,33,34,35] [.ptr (some (0,0)),.int .i64 f,.list (binds.map qaP) none,.int .i64 binds.length,.int .i64 ((0:Nat):Int)],[.box [.int .i64 op,.int .i64 n,.list (binds.map qaP) none,.list (kids.map qaP) none,.list (as.map qaM) none]]⟩ =
  some (if binds.any qeS=true then (.ret,⟨kt [1,2,5] [.ptr (some (0,0)),.int .i64 4,.int .i64 f],[.box [.int .i64 op,.int .i64 n,.list (binds.map qaP) none,.list (kids.map qaP) none,.list (as.map qaM) none]]⟩)
   else (.normal,⟨kt [1,2,5] [.ptr (some (0,0)),.junk,.int .i64 f],[.box [.int .i64 op,.int .i64 n,.list (binds.map qaP) none,.list (kids.map qaP) none,.list (as.map qaM) none]]⟩)):=by
 have hp:=hL.pure
 refine qkJ binds qeS (fun i=>⟨kt [1,5,33,34,35] [.ptr (some (0,0)),.int .i64 f,.list (binds.map qaP) none,.int .i64 binds.length,.int .i64 i],_⟩) _ _ ?_ ?_ ?_
 ·intro i hi hq
  obtain⟨h1,h2,h3⟩:=qbE qaP binds hb i hi
  have hbt:=qeZ hL h259 binds[i] 0 1048575
  have hq:decide (0≤binds[i]∧binds[i]≤1048575)=true:=by simpa[qeS] using hq
  rw[hq] at hbt
  generalize binds[i]=a at *
  unfold qis
  simp -implicitDefEqProofs only[qaq,qad,qae,qaf,qao,qab,qah,aOp,opd,qai,qav,qag,qbh,qbg,aUn,qaE,qaj,qaF,qaW,qaS,qac,qay,qam,qat,qaz,qaU,ren,renC,qa9,qbW,qca,qa8,qby,qaa,qal,qa0,qap,qak,List.map_cons,List.map_nil,List.flatMap_cons,List.flatMap_nil,List.length_cons,List.length_nil,List.append_nil,List.getElem?_cons_zero,List.take_succ_cons,List.take_nil,List.not_mem_nil,↓reduceIte,Bool.and_true,Bool.not_true,Bool.false_eq_true,and_true,not_false_eq_true,decide_true,decide_false,and_self,Nat.le_refl,Nat.zero_add,Nat.reduceEqDiff,Nat.reduceLT,Nat.reduceLeDiff,Int.toNat_natCast,Int.natCast_nonneg,qau,qaQ,qa4,qb0,qar,qaG,h1,h2,h3,hbt,qaJ L hp,hp]
 ·intro i hi hq
  obtain⟨h1,h2,h3⟩:=qbE qaP binds hb i hi
  have hbt:=qeZ hL h259 binds[i] 0 1048575
  have hq:decide (0≤binds[i]∧binds[i]≤1048575)=false:=qlH hq
  rw[hq] at hbt
  generalize binds[i]=a at *
  unfold qis
  simp -implicitDefEqProofs only[qaq,qad,qae,qaf,qao,qax,qab,qah,aOp,opd,qai,qav,qag,qbh,qbg,aUn,qaE,qaj,qaF,qaW,gcE,qaS,qac,qay,qam,qat,qaz,qaU,ren,renC,qa9,qbW,qca,qa8,qby,qaa,qal,qa0,qap,qak,List.map_cons,List.map_nil,List.flatMap_cons,List.flatMap_nil,List.length_cons,List.length_nil,List.append_nil,List.getElem?_cons_zero,List.take_succ_cons,List.take_nil,List.not_mem_nil,↓reduceIte,Bool.and_true,Bool.not_false,Bool.false_eq_true,and_true,not_false_eq_true,decide_true,decide_false,and_self,Nat.le_refl,Nat.zero_add,Nat.reduceEqDiff,Nat.reduceLT,Nat.reduceLeDiff,Int.toNat_natCast,Int.natCast_nonneg,qau,qaQ,qa4,qb0,qar,qaG,h1,h2,h3,hbt,qaJ L hp,hp]
 ·have h0:=qbF binds.length
  unfold qis
  simp -implicitDefEqProofs only[qad,qae,qaf,qbl,qab,qah,aOp,opd,qai,qav,qag,qbh,qbg,qaj,gcE,qaS,qac,qay,qam,qat,qaz,qaU,ren,renC,qa9,qbW,qca,qa8,qaa,qal,qa0,qb1,List.map_cons,List.map_nil,List.flatMap_cons,List.flatMap_nil,List.length_cons,List.length_nil,List.append_nil,List.take_succ_cons,List.take_nil,List.not_mem_nil,↓reduceIte,Bool.false_eq_true,and_true,not_false_eq_true,decide_false,Nat.le_refl,Nat.zero_add,Nat.reduceEqDiff,Nat.reduceLT,Nat.reduceLeDiff,qau,qaQ,qar,qaG,h0]
theorem qsv (h259:L.fns 259=some fn259) (op n:Int) (binds kids:List Int) (as:List CAlt) (a:CAlt) (hb:a.binds.length<2 ^ 30) (f:Int) (i:Nat) : 
  qcg L.pure (call L) 2 [1,5,9,44,45,46,64,65,66] [1,2,5,9,44,45,46] 5 qit ⟨kt [1,5,9,44,45,46,64,65,66] [.ptr (some (0,0)),.int .i64 f,.ptr (some (1,0)),.list (as.map qaM) none,.int .i64 as.length,.int .i64 i,.list (a.binds.map qaP) none,.int .i64 a.binds.length,.int .i64 ((0:Nat):Int)],[.box [.int .i64 op,.int .i64 n,.list (binds.map qaP) none,.list (kids.map qaP) none,.list (as.map qaM) none],.box [.int .i64 a.tag,.list (a.binds.map qaP) none]]⟩ =
  some (if a.binds.any qeS=true then (.ret,⟨kt [1,2,5,9,44,45,46] [.ptr (some (0,0)),.int .i64 4,.int .i64 f,.ptr (some (1,0)),.list (as.map qaM) none,.int .i64 as.length,.int .i64 i],[.box [.int .i64 op,.int .i64 n,.list (binds.map qaP) none,.list (kids.map qaP) none,.list (as.map qaM) none],.box [.int .i64 a.tag,.list (a.binds.map qaP) none]]⟩)
   else (.normal,⟨kt [1,2,5,9,44,45,46] [.ptr (some (0,0)),.junk,.int .i64 f,.ptr (some (1,0)),.list (as.map qaM) none,.int .i64 as.length,.int .i64 i],[.box [.int .i64 op,.int .i64 n,.list (binds.map qaP) none,.list (kids.map qaP) none,.list (as.map qaM) none],.box [.int .i64 a.tag,.list (a.binds.map qaP) none]]⟩)):=by
 have hp:=hL.pure
 refine qkJ a.binds qeS (fun j=>⟨kt [1,5,9,44,45,46,64,65,66] [.ptr (some (0,0)),.int .i64 f,.ptr (some (1,0)),.list (as.map qaM) none,.int .i64 as.length,.int .i64 i,.list (a.binds.map qaP) none,.int .i64 a.binds.length,.int .i64 j],_⟩) _ _ ?_ ?_ ?_
 ·intro j hi hq
  obtain⟨h1,h2,h3⟩:=qbE qaP a.binds hb j hi
  have hbt:=qeZ hL h259 a.binds[j] 0 1048575
  have hq:decide (0≤a.binds[j]∧a.binds[j]≤1048575)=true:=by simpa[qeS] using hq
  rw[hq] at hbt
  generalize a.binds[j]=x at *
  unfold qit
  simp -implicitDefEqProofs only[qaq,qad,qae,qaf,qao,qab,qah,aOp,opd,qai,qav,qag,qbh,qbg,aUn,qaE,qaj,qaF,qaW,qaS,qac,qay,qam,qat,qaz,qaU,ren,renC,qa9,qbW,qca,qa8,qby,qaa,qal,qa0,qap,qak,List.map_cons,List.map_nil,List.flatMap_cons,List.flatMap_nil,List.length_cons,List.length_nil,List.cons_append,List.nil_append,List.append_nil,List.getElem?_cons_zero,List.take_succ_cons,List.take_nil,List.not_mem_nil,↓reduceIte,Bool.and_true,Bool.not_true,Bool.false_eq_true,and_true,not_false_eq_true,decide_true,decide_false,and_self,Nat.le_refl,Nat.zero_add,Nat.reduceEqDiff,Nat.reduceAdd,Nat.reduceLT,Nat.reduceLeDiff,Int.toNat_natCast,Int.natCast_nonneg,qau,qaQ,qa4,qb0,qar,qaG,h1,h2,h3,hbt,qaJ L hp,hp]
 ·intro j hi hq
  obtain⟨h1,h2,h3⟩:=qbE qaP a.binds hb j hi
  have hbt:=qeZ hL h259 a.binds[j] 0 1048575
  have hq:decide (0≤a.binds[j]∧a.binds[j]≤1048575)=false:=qlH hq
  rw[hq] at hbt
  generalize a.binds[j]=x at *
  unfold qit
  simp -implicitDefEqProofs only[qaq,qad,qae,qaf,qao,qax,qab,qah,aOp,opd,qai,qav,qag,qbh,qbg,aUn,qaE,qaj,qaF,qaW,gcE,qaS,qac,qay,qam,qat,qaz,qaU,ren,renC,qa9,qbW,qca,qa8,qby,qaa,qal,qa0,qap,qak,List.map_cons,List.map_nil,List.flatMap_cons,List.flatMap_nil,List.length_cons,List.length_nil,List.cons_append,List.nil_append,List.append_nil,List.getElem?_cons_zero,List.take_succ_cons,List.take_nil,List.not_mem_nil,↓reduceIte,Bool.and_true,Bool.not_false,Bool.false_eq_true,and_true,not_false_eq_true,decide_true,decide_false,and_self,Nat.le_refl,Nat.zero_add,Nat.reduceEqDiff,Nat.reduceAdd,Nat.reduceLT,Nat.reduceLeDiff,Int.toNat_natCast,Int.natCast_nonneg,qau,qaQ,qa4,qb0,qar,qaG,h1,h2,h3,hbt,qaJ L hp,hp]
 ·have h0:=qbF a.binds.length
  unfold qit
  simp -implicitDefEqProofs only[qad,qae,qaf,qbl,qab,qah,aOp,opd,qai,qav,qag,qbh,qbg,qaj,gcE,qaS,qac,qay,qam,qat,qaz,qaU,ren,renC,qa9,qbW,qca,qa8,qaa,qal,qa0,qb1,List.map_cons,List.map_nil,List.flatMap_cons,List.flatMap_nil,List.length_cons,List.length_nil,List.cons_append,List.nil_append,List.append_nil,List.take_succ_cons,List.take_nil,List.not_mem_nil,↓reduceIte,Bool.false_eq_true,and_true,not_false_eq_true,decide_false,Nat.le_refl,Nat.zero_add,Nat.reduceEqDiff,Nat.reduceAdd,Nat.reduceLT,Nat.reduceLeDiff,qau,qaQ,qar,qaG,h0]
theorem qsw (h259:L.fns 259=some fn259) (op n:Int) (binds kids:List Int) (as:List CAlt) (hl:as.length<2 ^ 30) (ha:∀ a∈as,a.binds.length<2 ^ 30) (b:Int) :
  qcg L.pure (call L) 1 [1,5,44,45,46] [1,2,5] 3 qfr ⟨kt [1,5,44,45,46] [.ptr (some (0,0)),.int .i64 b,.list (as.map qaM) none,.int .i64 as.length,.int .i64 ((0:Nat):Int)],[.box [.int .i64 op,.int .i64 n,.list (binds.map qaP) none,.list (kids.map qaP) none,.list (as.map qaM) none]]⟩ =
  some (qcu (fun f=>⟨kt [1,2,5] [.ptr (some (0,0)),.int .i64 4,.int .i64 f],[.box [.int .i64 op,.int .i64 n,.list (binds.map qaP) none,.list (kids.map qaP) none,.list (as.map qaM) none]]⟩)
   ⟨kt [1,2,5] [.ptr (some (0,0)),.junk,.int .i64 (qbX b as)],[.box [.int .i64 op,.int .i64 n,.list (binds.map qaP) none,.list (kids.map qaP) none,.list (as.map qaM) none]]⟩
   (qbr (fun i a=>if qcZ op a=true then some (qbX b (as.take i)) else none) as 0)):=by
 have hp:=hL.pure
 have hround:∀ (i:Nat) (hi:i<as.length),qch L.pure (call L) 1 [1,5,44,45,46] [1,2,5] qfr ⟨kt [1,5,44,45,46] [.ptr (some (0,0)),.int .i64 (qbX b (as.take i)),.list (as.map qaM) none,.int .i64 as.length,.int .i64 i],[.box [.int .i64 op,.int .i64 n,.list (binds.map qaP) none,.list (kids.map qaP) none,.list (as.map qaM) none]]⟩ =
   some (if qcZ op as[i]=true then (.ret,⟨kt [1,2,5] [.ptr (some (0,0)),.int .i64 4,.int .i64 (qbX b (as.take i))],[.box [.int .i64 op,.int .i64 n,.list (binds.map qaP) none,.list (kids.map qaP) none,.list (as.map qaM) none]]⟩)
    else (.normal,⟨kt [1,5,44,45,46] [.ptr (some (0,0)),.int .i64 (qbX b (as.take (i+1))),.list (as.map qaM) none,.int .i64 as.length,.int .i64 ((i+1:Nat):Int)],[.box [.int .i64 op,.int .i64 n,.list (binds.map qaP) none,.list (kids.map qaP) none,.list (as.map qaM) none]]⟩)):=by
  intro i hi
  obtain⟨h1,h2,h3⟩:=qbE qaM as hl i hi
  have hs:qbX b (as.take (i+1))=max (qbX b (as.take i)) (as[i].binds.length:Int):=by
   rw[List.take_succ_eq_append_getElem hi]
   unfold qbX
   rw[List.foldl_append]
   rfl
  rw[hs]
  have hb:=ha as[i] (List.getElem_mem hi)
  generalize qbX b (as.take i)=f at *
  have hl1:=qsv hL h259 op n binds kids as as[i] hb f i
  simp only[Int.natCast_zero] at hl1
  generalize as[i]=a at *
  have hmx:=qfM f (a.binds.length:Int)
  unfold qcZ
  by_cases e1:(255:Int)<a.tag
  ·cases e7:op==7 with
   | true =>
     unfold qfr
     simp -implicitDefEqProofs only[qaq,qad,qae,qaf,qao,qax,qab,qaC,qah,aOp,opd,qai,qa1,qav,qag,qaV,qbh,qbg,qaE,qaj,qaA,qaF,qbC,qbG,qaK,leaf,qaw,qaT,gcE,qaS,qac,qay,qam,qat,qaz,qaU,ren,renC,qa9,qbW,qca,qa8,qaa,qal,qa0,qdj,beq_self_eq_true,Option.map_some,List.map_cons,List.map_nil,List.flatMap_cons,List.flatMap_nil,List.length_cons,List.length_nil,List.cons_append,List.nil_append,List.append_nil,List.getElem?_cons_zero,List.getElem?_cons_succ,List.set_cons_zero,List.set_cons_succ,List.take_succ_cons,List.take_zero,List.drop_succ_cons,List.drop_zero,List.take_nil,List.drop_nil,List.all_cons,List.all_nil,List.not_mem_nil,↓reduceIte,Bool.and_true,Bool.true_or,Bool.false_eq_true,and_true,not_false_eq_true,decide_true,decide_false,and_self,Nat.le_refl,Nat.add_zero,Nat.zero_add,Nat.reduceEqDiff,Nat.reduceAdd,Nat.reduceLT,Nat.reduceLeDiff,Int.toNat_natCast,Int.natCast_nonneg,qau,qaQ,gt_iff_lt,qbD,qar,qaG,h1,h2,h3,e1,e7]
   | false =>
     by_cases e2:(1048576:Int)≤a.tag
     ·unfold qfr
      simp -implicitDefEqProofs only[qaq,qad,qae,qaf,qao,qax,qab,qaC,qah,aOp,opd,qai,qa1,qav,qag,qaV,qbh,qbg,qaE,qaj,qaA,qaF,qbC,qbG,qaK,leaf,qaw,qaT,gcE,qaS,qac,qay,qam,qat,qaz,qaU,ren,renC,qa9,qbW,qca,qa8,qaa,qal,qa0,beq_self_eq_true,Option.map_some,List.map_cons,List.map_nil,List.flatMap_cons,List.flatMap_nil,List.length_cons,List.length_nil,List.cons_append,List.nil_append,List.append_nil,List.getElem?_cons_zero,List.getElem?_cons_succ,List.set_cons_zero,List.set_cons_succ,List.take_succ_cons,List.take_zero,List.drop_succ_cons,List.drop_zero,List.take_nil,List.drop_nil,List.all_cons,List.all_nil,List.not_mem_nil,↓reduceIte,Bool.and_true,Bool.and_false,Bool.or_true,Bool.true_or,Bool.false_eq_true,and_true,not_false_eq_true,decide_true,decide_false,and_self,Nat.le_refl,Nat.add_zero,Nat.zero_add,Nat.reduceEqDiff,Nat.reduceAdd,Nat.reduceLT,Nat.reduceLeDiff,Int.toNat_natCast,Int.natCast_nonneg,qau,qaQ,ge_iff_le,gt_iff_lt,qbD,qar,qaG,h1,h2,h3,e1,e7,e2]
     ·cases e3:a.binds.any qeS<;>simp only[e3,Bool.false_eq_true,if_true,if_false] at hl1<;>unfold qfr<;>simp -implicitDefEqProofs only[qaq,qad,qae,qaf,qao,qab,qaC,qah,aOp,opd,qai,qa1,qav,qag,qaV,qbh,qco,qbg,qaE,qaj,qaA,qaF,qbC,qbG,qaK,leaf,qaw,qaT,qaL,gcE,qaS,qac,qay,qam,qat,qaz,qaU,ren,renC,qa9,qbW,qca,qa8,qaa,qal,qa0,beq_self_eq_true,Option.map_some,List.map_cons,List.map_nil,List.flatMap_cons,List.flatMap_nil,List.length_cons,List.length_nil,List.length_map,List.cons_append,List.nil_append,List.append_nil,List.getElem?_cons_zero,List.getElem?_cons_succ,List.set_cons_zero,List.set_cons_succ,List.take_succ_cons,List.take_zero,List.drop_succ_cons,List.drop_zero,List.take_nil,List.drop_nil,List.all_cons,List.all_nil,List.not_mem_nil,↓reduceIte,Bool.and_true,Bool.and_false,Bool.or_true,Bool.or_false,Bool.false_eq_true,and_true,not_false_eq_true,decide_true,decide_false,and_self,Nat.le_refl,Nat.add_zero,Nat.zero_add,Nat.reduceEqDiff,Nat.reduceAdd,Nat.reduceLT,Nat.reduceLeDiff,Int.toNat_natCast,Int.natCast_nonneg,qau,qaQ,ge_iff_le,gt_iff_lt,qbD,qar,qaG,h1,h2,h3,e1,e7,e2,e3,hl1,hmx]
  ·have e2:¬ (1048576:Int)≤a.tag:=by omega
   cases e3:a.binds.any qeS<;>simp only[e3,Bool.false_eq_true,if_true,if_false] at hl1<;>unfold qfr<;>simp -implicitDefEqProofs only[qaq,qad,qae,qaf,qao,qab,qaC,qah,aOp,opd,qai,qa1,qav,qag,qaV,qbh,qco,qbg,qaE,qaj,qaA,qaF,qbC,qbG,qaK,leaf,qaw,qaT,qaL,gcE,qaS,qac,qay,qam,qat,qaz,qaU,ren,renC,qa9,qbW,qca,qa8,qaa,qal,qa0,qcI,beq_self_eq_true,Option.map_some,List.map_cons,List.map_nil,List.flatMap_cons,List.flatMap_nil,List.length_cons,List.length_nil,List.length_map,List.cons_append,List.nil_append,List.append_nil,List.getElem?_cons_zero,List.getElem?_cons_succ,List.set_cons_zero,List.set_cons_succ,List.take_succ_cons,List.take_zero,List.drop_succ_cons,List.drop_zero,List.take_nil,List.drop_nil,List.all_cons,List.all_nil,List.not_mem_nil,↓reduceIte,Bool.and_true,Bool.false_and,Bool.or_true,Bool.or_false,Bool.false_eq_true,and_true,not_false_eq_true,decide_true,decide_false,and_self,Nat.le_refl,Nat.add_zero,Nat.zero_add,Nat.reduceEqDiff,Nat.reduceAdd,Nat.reduceLT,Nat.reduceLeDiff,Int.toNat_natCast,Int.natCast_nonneg,qau,qaQ,ge_iff_le,gt_iff_lt,qbD,qar,qaG,h1,h2,h3,e1,e2,e3,hl1,hmx]
 refine qd1 as (fun i a=>if qcZ op a=true then some (qbX b (as.take i)) else none)
  (fun i=>⟨kt [1,5,44,45,46] [.ptr (some (0,0)),.int .i64 (qbX b (as.take i)),.list (as.map qaM) none,.int .i64 as.length,.int .i64 i],[.box [.int .i64 op,.int .i64 n,.list (binds.map qaP) none,.list (kids.map qaP) none,.list (as.map qaM) none]]⟩) _ _ ?_ ?_ ?_
 ·intro i hi hq
  rw[hround i hi,if_neg]
  intro hx
  simp[hx] at hq
 ·intro i hi r hq
  cases hx:qcZ op as[i] with
  | false=>simp[hx] at hq
  | true =>
    rw[hround i hi,if_pos hx]
    simp only[hx,if_true,Option.some.injEq] at hq
    rw[hq]
 ·have h0:=qbF as.length
  rw[List.take_length]
  unfold qfr
  simp -implicitDefEqProofs only[qad,qae,qaf,qbl,qab,qah,aOp,opd,qai,qav,qag,qbh,qbg,qaj,gcE,qaS,qac,qay,qam,qat,qaz,qaU,ren,renC,qa9,qbW,qca,qa8,qaa,qal,qa0,qb1,List.map_cons,List.map_nil,List.flatMap_cons,List.flatMap_nil,List.length_cons,List.length_nil,List.append_nil,List.take_succ_cons,List.take_nil,List.not_mem_nil,↓reduceIte,Bool.false_eq_true,and_true,not_false_eq_true,decide_false,Nat.le_refl,Nat.zero_add,Nat.reduceEqDiff,Nat.reduceLT,Nat.reduceLeDiff,qau,qaQ,qar,qaG,h0]
theorem qqN (h259:L.fns 259=some fn259) (op n:Int) (binds kids:List Int) (as:List CAlt) (hl:as.length<2 ^ 30) (hb:binds.length<2 ^ 30) (ha:∀ a∈as,a.binds.length<2 ^ 30)
  (low high:Int) (tm:Tmps) (h1:tm 1=.ptr (some (0,0))) (h3:tm 3=.int .i64 high) (h4:tm 4=.int .i64 low) :
  qnS (qaR [.tmp 2] (qbJ L.pure (call L) qhZ ⟨tm,[.box [.int .i64 op,.int .i64 n,.list (binds.map qaP) none,.list (kids.map qaP) none,.list (as.map qaM) none]]⟩)) =
   some (.val (.int .i64 (if ¬ (low≤n∧n≤high) then 4 else if binds.any qeS=true then 4 else if as.any (qcZ op)=true then 4 else if qk8 op (qbX binds.length as) kids.length=true then 2 else 0))):=by
 have hp:=hL.pure
 have hbt:=qeZ hL h259 n low high
 have hl0:=qsu hL h259 op n binds kids as hb binds.length
 have hl2:=qsw hL h259 op n binds kids as hl ha binds.length
 have T:=qo9 (L:=L) op n binds kids as (qbX binds.length as)
 have hany:=qil (qcZ op) (fun i=>qbX (binds.length:Int) (as.take i)) as 0
 simp only[Int.natCast_zero] at hl0 hl2
 by_cases hr:low≤n∧n≤high
 ·rw[decide_eq_true hr] at hbt
  rw[if_neg (fun hx=>hx hr)]
  cases e1:binds.any qeS with
  | true =>
    simp only[e1,if_true] at hl0
    unfold qhZ
    simp -implicitDefEqProofs only[qaq,qad,qae,qaf,qab,qah,aOp,opd,qai,qav,qag,qco,aUn,qaF,qaK,qaR,qas,qaB,qaI,qaL,qaS,qac,qay,qam,qat,qaz,qaU,ren,renC,qa9,qbW,qca,qa8,qby,qbA,qaa,qal,qa0,qap,qak,List.map_cons,List.map_nil,List.flatMap_cons,List.flatMap_nil,List.length_cons,List.length_nil,List.length_map,List.append_nil,List.getElem?_cons_zero,List.getElem?_cons_succ,List.take_succ_cons,List.take_nil,List.not_mem_nil,↓reduceIte,Bool.and_true,Bool.not_true,Bool.false_eq_true,and_true,not_false_eq_true,decide_false,and_self,Nat.le_refl,Nat.zero_add,Nat.reduceEqDiff,Nat.reduceLT,Nat.reduceLeDiff,qa4,qaD,qar,qaG,h1,h3,h4,hbt,hl0,qaJ L hp,hp]
  | false =>
    simp only[e1,Bool.false_eq_true,if_false] at hl0
    cases e2:as.any (qcZ op) with
    | true =>
      rw[e2] at hany
      obtain⟨r,hr2⟩:=Option.isSome_iff_exists.1 hany
      simp only[hr2,qcu] at hl2
      unfold qhZ
      simp -implicitDefEqProofs only[qaq,qad,qae,qaf,qab,qah,aOp,opd,qai,qav,qag,qco,aUn,qaF,qaK,qaR,qas,qaB,qaI,qaL,qaS,qac,qay,qam,qat,qaz,qaU,ren,renC,qa9,qbW,qca,qa8,qby,qbA,qaa,qal,qa0,qap,qak,List.map_cons,List.map_nil,List.flatMap_cons,List.flatMap_nil,List.length_cons,List.length_nil,List.length_map,List.append_nil,List.getElem?_cons_zero,List.getElem?_cons_succ,List.take_succ_cons,List.take_nil,List.not_mem_nil,↓reduceIte,Bool.and_true,Bool.not_true,Bool.false_eq_true,and_true,not_false_eq_true,decide_false,and_self,Nat.le_refl,Nat.zero_add,Nat.reduceEqDiff,Nat.reduceLT,Nat.reduceLeDiff,qaQ,qa4,qaD,qar,qaG,h1,h3,h4,hbt,hl0,hl2,qaJ L hp,hp]
    | false =>
      rw[e2] at hany
      have hn:qbr (fun i a=>if qcZ op a=true then some (qbX (binds.length:Int) (as.take i)) else none) as 0=none:=by
       revert hany
       cases qbr (fun i a=>if qcZ op a=true then some (qbX (binds.length:Int) (as.take i)) else none) as 0<;>simp
      simp only[hn,qcu] at hl2
      unfold qhZ
      generalize qjU=t at *
      simp -implicitDefEqProofs only[qaq,qad,qae,qaf,qab,qah,aOp,opd,qai,qav,qag,qco,aUn,qaF,qaK,qaR,qas,qaB,qaI,qaL,qaS,qac,qay,qam,qat,qaz,qaU,ren,renC,qa9,qbW,qca,qa8,qby,qaa,qal,qa0,qap,qak,List.map_cons,List.map_nil,List.flatMap_cons,List.flatMap_nil,List.length_cons,List.length_nil,List.length_map,List.append_nil,List.getElem?_cons_zero,List.getElem?_cons_succ,List.take_succ_cons,List.take_nil,List.not_mem_nil,↓reduceIte,Bool.and_true,Bool.not_true,Bool.false_eq_true,and_true,not_false_eq_true,decide_false,and_self,Nat.le_refl,Nat.zero_add,Nat.reduceEqDiff,Nat.reduceLT,Nat.reduceLeDiff,qaQ,qa4,qar,qaG,h1,h3,h4,hbt,hl0,hl2,qaJ L hp,hp]
      exact T _ (by simp -implicitDefEqProofs only[qav,↓reduceIte]) (by simp -implicitDefEqProofs only[qav,↓reduceIte,Nat.reduceEqDiff])
 ·rw[decide_eq_false hr] at hbt
  rw[if_pos hr]
  unfold qhZ
  simp -implicitDefEqProofs only[qad,qae,qaf,qax,qab,qah,aOp,opd,qai,qag,aUn,qaF,qaK,qaR,qas,qaB,qaI,qby,qbA,qal,qap,qak,List.map_cons,List.map_nil,List.getElem?_cons_zero,List.getElem?_cons_succ,↓reduceIte,Bool.and_true,Bool.not_false,and_self,Nat.zero_add,Nat.reduceEqDiff,qa4,qaD,h1,h3,h4,hbt,qaJ L hp,hp]
theorem qsx (h259:L.fns 259=some fn259) (h235:L.fns 235=some fn235) (op n:Int) (binds kids:List Int) (as:List CAlt) (hl:as.length<2 ^ 30) (hb:binds.length<2 ^ 30) (ha:∀ a∈as,a.binds.length<2 ^ 30) (h:Heap) :
  pcall L 235 [.agg [.int .i64 op,.int .i64 n,.list (binds.map qaP) none,.list (kids.map qaP) none,.list (as.map qaM) none]] h=some (.val (.int .i64 (qcP op n binds kids.length as)),h):=by
 refine qbH hL h235 rfl ?_ h
 have T:=qqN hL h259 op n binds kids as hl hb ha
 unfold fn235 qcP qoZ
 generalize qhZ=t at *
 by_cases h1:op=1
 ·subst h1;simp -implicitDefEqProofs only[qad,qae,qaf,qao,qab,qah,aOp,opd,qai,qan,qag,qbh,qbg,qaj,qaF,qaK,qaw,qaR,qas,qaB,qaI,beq_self_eq_true,Option.getD_some,List.length_nil,List.nil_append,List.getElem?_cons_zero,↓reduceIte,Bool.false_eq_true,Nat.add_zero,Nat.reduceEqDiff,Int.reduceNeg];exact T _ _ _ (by simp -implicitDefEqProofs only[qai,↓reduceIte,Nat.reduceEqDiff,Int.reduceNeg]) (by simp -implicitDefEqProofs only[qai,↓reduceIte,Int.reduceNeg]) (by simp -implicitDefEqProofs only[qai,↓reduceIte,Nat.reduceEqDiff,Int.reduceNeg])
 by_cases h6:op=6
 ·subst h6;simp -implicitDefEqProofs only[qad,qae,qaf,qao,qab,qah,aOp,opd,qai,qan,qag,qbh,qbg,qaj,qaF,qaK,qaw,qaR,qas,qaB,qaI,beq_self_eq_true,Option.getD_some,List.length_nil,List.nil_append,List.getElem?_cons_zero,↓reduceIte,Bool.false_eq_true,Nat.add_zero,Nat.reduceEqDiff,Int.reduceEq,Int.reduceBEq,Int.reduceNeg];exact T _ _ _ (by simp -implicitDefEqProofs only[qai,↓reduceIte,Nat.reduceEqDiff]) (by simp -implicitDefEqProofs only[qai,↓reduceIte]) (by simp -implicitDefEqProofs only[qai,↓reduceIte,Nat.reduceEqDiff])
 by_cases h17:op=17
 ·subst h17;simp -implicitDefEqProofs only[qad,qae,qaf,qao,qab,qah,aOp,opd,qai,qan,qag,qbh,qbg,qaj,qaF,qaK,qaw,qaR,qas,qaB,qaI,beq_self_eq_true,Option.getD_some,List.length_nil,List.nil_append,List.getElem?_cons_zero,↓reduceIte,Bool.false_eq_true,Nat.add_zero,Nat.reduceEqDiff,Int.reduceEq,Int.reduceBEq,Int.reduceNeg];exact T _ _ _ (by simp -implicitDefEqProofs only[qai,↓reduceIte,Nat.reduceEqDiff]) (by simp -implicitDefEqProofs only[qai,↓reduceIte]) (by simp -implicitDefEqProofs only[qai,↓reduceIte,Nat.reduceEqDiff])
 by_cases h16:op=16
 ·subst h16;simp -implicitDefEqProofs only[qad,qae,qaf,qao,qab,qah,aOp,opd,qai,qan,qag,qbh,qbg,qaj,qaF,qaK,qaw,qaR,qas,qaB,qaI,beq_self_eq_true,Option.getD_some,List.length_nil,List.nil_append,List.getElem?_cons_zero,↓reduceIte,Bool.false_eq_true,Nat.add_zero,Nat.reduceEqDiff,Int.reduceEq,Int.reduceBEq,Int.reduceNeg];exact T _ _ _ (by simp -implicitDefEqProofs only[qai,↓reduceIte,Nat.reduceEqDiff]) (by simp -implicitDefEqProofs only[qai,↓reduceIte]) (by simp -implicitDefEqProofs only[qai,↓reduceIte,Nat.reduceEqDiff])
 have g1:(op==1)=false:=by simpa using h1
 have g6:(op==6)=false:=by simpa using h6
 have g17:(op==17)=false:=by simpa using h17
 have g16:(op==16)=false:=by simpa using h16
 simp -implicitDefEqProofs only[qaq,qad,qae,qaf,qao,qab,qah,aOp,opd,qai,qan,qag,qbh,qbg,qaj,qaF,qaK,qaw,qaR,qas,qaB,qaI,Option.getD_some,List.length_nil,List.nil_append,List.getElem?_cons_zero,↓reduceIte,Bool.false_eq_true,Nat.add_zero,Nat.reduceEqDiff,Int.reduceNeg,g1,g6,g17,g16,h1,h6,h17,h16]
 exact T _ _ _ (by simp -implicitDefEqProofs only[qai,↓reduceIte,Nat.reduceEqDiff]) (by simp -implicitDefEqProofs only[qai,↓reduceIte,Nat.reduceEqDiff]) (by simp -implicitDefEqProofs only[qai,↓reduceIte,Nat.reduceEqDiff])
end
def qtc (e:List CExpr) (k:Int):Int:=match e[k.toNat]? with | some x=>x.op | none=>0
structure Lab where
 op:Int
 n:Int
 binds:List Int
 kops:List Int
 alts:List CAlt
def qgD (e:List CExpr) (x:CExpr):Lab:=⟨x.op,x.n,x.binds,x.kids.map (qtc e),x.alts⟩
def qgo (kops:List Int) (op:Int) (binds:List Int) (i:Nat):Bool :=
 (op==5 && !(kops.getD i 0==2)) || (op==9 && decide (0<(i:Int)) && decide (binds.getD i 0≤binds.getD (i-1) 0))
def qoQ (x:Lab):Int :=
 if qcz x.op x.n x.binds.length x.kops.length x.alts=false then 3
 else if qcP x.op x.n x.binds x.kops.length x.alts≠0 then qcP x.op x.n x.binds x.kops.length x.alts
 else if (qbr (fun i _=>if qgo x.kops x.op x.binds i=true then some () else none) x.binds 0).isSome=true then 3 else 0
def qo0 (e:List CExpr) (x:CExpr):Int:=qoQ (qgD e x)
structure NodeFit (x:CExpr):Prop where
 binds:x.binds.length<2 ^ 30
 kids:x.kids.length<2 ^ 30
 alts:x.alts.length<2 ^ 30
 each:∀ a∈x.alts,a.binds.length<2 ^ 30
theorem qsP {op n:Int} {bl kl:Nat} {as:List CAlt} (h:qcz op n bl kl as=true) (h5:op=5):kl=bl+1:=by
 subst h5
 have e:qcz 5 n bl kl as=qeV n bl kl as.length ((bl:Int)+1,max 1 (bl:Int),false):=rfl
 rw[e] at h
 unfold qeV at h
 simp only[Bool.and_eq_true,beq_iff_eq] at h
 omega
section
variable {L:Lib} (hL:Plain L)
include hL
theorem qxS (h194:L.fns 194=some fn194) (e:List CExpr) (k:Int) (h0:0≤k) (h1:k.toNat<e.length) (h:Heap) :
  pcall L 194 [.int .i64 k,.vptr [.list (e.map qaH) none] 0] h=some (.val (qaH e[k.toNat]),h):=by
 refine qbH hL h194 (qnf _) ?_ h
 obtain⟨m,rfl⟩:∃ m:Nat,k=m:=⟨k.toNat,by omega⟩
 have h2:(e.map qaH)[m]? = some (qaH e[m]):=by
  have:m<e.length:=by omega
  simp[this]
 have hx:e[(m:Int).toNat]=e[m]'(by omega):=rfl
 rw[hx]
 generalize e[m]'(by omega)=x at *
 unfold fn194
 simp -implicitDefEqProofs only[qad,qae,qax,qab,qah,aOp,opd,qai,qa1,qan,qag,qaV,qaE,qaF,qbC,qbG,leaf,qaw,qaT,qaR,qas,qaB,qaI,qs5,qba,qbs,Option.map_some,Option.getD_some,List.map_cons,List.map_nil,List.length_cons,List.length_nil,List.nil_append,List.append_nil,List.getElem?_cons_zero,List.getElem?_cons_succ,List.set_cons_zero,List.take_succ_cons,List.take_zero,List.drop_succ_cons,List.drop_zero,List.take_nil,List.drop_nil,List.all_cons,List.all_nil,↓reduceIte,Bool.and_true,and_self,Nat.le_refl,reduceCtorEq,Nat.zero_add,Nat.reduceEqDiff,Nat.reduceAdd,Int.toNat_natCast,Int.natCast_nonneg,qaD,qbB,h2]
theorem qxa (h194:L.fns 194=some fn194) (e:List CExpr) (op n:Int) (binds kids:List Int) (as:List CAlt) (hb:binds.length<2 ^ 30) (hk:∀ k∈kids,0≤k∧k.toNat<e.length) (h5:op=5→binds.length<kids.length) :
  qcg L.pure (call L) 1 [1,2,17,18] [4] 0 qfq ⟨kt [1,2,17,18] [.func 194 [] [.vptr [.list (e.map qaH) none] 0],.ptr (some (0,0)),.int .i64 binds.length,.int .i64 ((0:Nat):Int)],[.box [.int .i64 op,.int .i64 n,.list (binds.map qaP) none,.list (kids.map qaP) none,.list (as.map qaM) none]]⟩ =
  some (qcu (fun _=>⟨kt [4] [.int .i64 3],[.box [.int .i64 op,.int .i64 n,.list (binds.map qaP) none,.list (kids.map qaP) none,.list (as.map qaM) none]]⟩)
   ⟨kt [4] [.junk],[.box [.int .i64 op,.int .i64 n,.list (binds.map qaP) none,.list (kids.map qaP) none,.list (as.map qaM) none]]⟩ (qbr (fun i _=>if qgo (kids.map (qtc e)) op binds i=true then some () else none) binds 0)):=by
 have hp:=hL.pure
 have hround:∀ (i:Nat) (hi:i<binds.length),qch L.pure (call L) 1 [1,2,17,18] [4] qfq ⟨kt [1,2,17,18] [.func 194 [] [.vptr [.list (e.map qaH) none] 0],.ptr (some (0,0)),.int .i64 binds.length,.int .i64 i],[.box [.int .i64 op,.int .i64 n,.list (binds.map qaP) none,.list (kids.map qaP) none,.list (as.map qaM) none]]⟩ =
   some (if qgo (kids.map (qtc e)) op binds i=true then (.ret,⟨kt [4] [.int .i64 3],[.box [.int .i64 op,.int .i64 n,.list (binds.map qaP) none,.list (kids.map qaP) none,.list (as.map qaM) none]]⟩)
    else (.normal,⟨kt [1,2,17,18] [.func 194 [] [.vptr [.list (e.map qaH) none] 0],.ptr (some (0,0)),.int .i64 binds.length,.int .i64 ((i+1:Nat):Int)],[.box [.int .i64 op,.int .i64 n,.list (binds.map qaP) none,.list (kids.map qaP) none,.list (as.map qaM) none]]⟩)):=by
  intro i hi
  obtain⟨h1,h2,h3⟩:=qbE qaP binds hb i hi
  have hdE:=qa3 e
  by_cases o5:op=5
  ·subst o5
   have hik:i<kids.length:=by have:=h5 rfl;omega
   have h4:(kids.map qaP)[i]? = some (qaP kids[i]):=by simp[hik]
   obtain⟨k0,k1⟩:=hk kids[i] (List.getElem_mem hik)
   have hc:=qxS hL h194 e kids[i] k0 k1
   have ho:(kids.map (qtc e)).getD i 0=e[kids[i].toNat].op:=by
    rw[List.getD_eq_getElem?_getD,List.getElem?_map,List.getElem?_eq_getElem hik,Option.map_some,Option.getD_some]
    unfold qtc
    rw[List.getElem?_eq_getElem k1]
   unfold qgo
   rw[ho]
   generalize e[kids[i].toNat]=y at *
   generalize kids[i]=k at *
   cases e2:(y.op==2)<;>unfold qfq<;>simp -implicitDefEqProofs only[qaq,qad,qa5,qae,qaf,qao,qax,qab,qah,aOp,opd,qai,qav,qag,qbh,qbg,qaE,qaj,qaA,qaF,qaK,qpm,qaW,gcE,qaS,qac,qay,qam,qat,qaz,qaU,ren,renC,qa9,qbW,qca,qa8,qbz,qbo,qa7,qbx,qby,qbS,qaa,qal,qbK,qaN,qa0,qap,qak,qdj,qcI,beq_self_eq_true,List.map_cons,List.map_nil,List.flatMap_cons,List.flatMap_nil,List.length_cons,List.length_nil,List.cons_append,List.nil_append,List.append_nil,List.getElem?_cons_zero,List.getElem?_cons_succ,List.take_succ_cons,List.take_nil,List.not_mem_nil,↓reduceIte,Bool.and_true,Bool.and_false,Bool.false_and,Bool.or_false,Bool.not_true,Bool.not_false,Bool.false_eq_true,and_true,not_false_eq_true,decide_true,decide_false,Nat.le_refl,Nat.add_zero,Nat.zero_add,Nat.reduceEqDiff,Nat.reduceLT,Nat.reduceLeDiff,Int.toNat_natCast,Int.natCast_nonneg,qau,qaO,qa6,Int.reduceBEq,qaQ,qb0,qbB,qar,qaG,h1,h2,h4,hc,e2,hdE,qaJ L hp,hp,bne]
  ·have e5:(op==5)=false:=by simpa using o5
   unfold qgo
   by_cases o9:op=9
   ·subst o9
    by_cases hi0:(0:Int)<i
    ·have h6:IntKind.i64.wrap ((i:Int)-1)=((i-1:Nat):Int):=by rw[qd3 (by omega) (by omega)];omega
     have h7:(binds.map qaP)[i-1]? = some (qaP (binds.getD (i-1) 0)):=by
      have:i-1<binds.length:=by omega
      simp[this]
     have h8:(binds.map qaP)[i]? = some (qaP (binds.getD i 0)):=by simp[hi]
     generalize binds.getD (i-1) 0=p at *
     generalize binds.getD i 0=q at *
     by_cases hpq:q≤p<;>unfold qfq<;>simp -implicitDefEqProofs only[qaq,qad,qa5,qae,qaf,qao,qax,qab,qah,aOp,opd,qai,qav,qag,qbh,qbg,qaE,qaj,qaA,qaF,qaK,qaW,gcE,qaS,qac,qay,qam,qat,qaz,qaU,ren,renC,qa9,qbW,qca,qa8,qbz,qbo,qa7,qbx,qaa,qal,qbK,qaN,qa0,qap,qak,qcI,beq_self_eq_true,List.map_cons,List.map_nil,List.flatMap_cons,List.flatMap_nil,List.length_cons,List.length_nil,List.cons_append,List.nil_append,List.append_nil,List.getElem?_cons_zero,List.getElem?_cons_succ,List.take_succ_cons,List.take_nil,List.not_mem_nil,↓reduceIte,Bool.and_true,Bool.and_false,Bool.false_and,Bool.or_true,Bool.or_false,Bool.false_eq_true,and_true,not_false_eq_true,decide_true,decide_false,Nat.le_refl,Nat.add_zero,Nat.zero_add,Nat.reduceEqDiff,Nat.reduceLT,Nat.reduceLeDiff,Int.toNat_natCast,Int.natCast_nonneg,qau,qaO,qa6,Int.reduceBEq,qaQ,ge_iff_le,gt_iff_lt,qb0,qar,qaG,h1,h2,h6,h7,h8,hi0,hpq,hdE,qaJ L hp,hp,bne]
    ·unfold qfq
     simp -implicitDefEqProofs only[qaq,qad,qa5,qae,qaf,qao,qab,qah,aOp,opd,qai,qav,qag,qbh,qbg,qaj,qaA,qaF,qaK,qaS,qac,qay,qam,qat,qaz,qaU,ren,renC,qa9,qbW,qca,qa8,qbz,qbo,qa7,qbx,qaa,qal,qbK,qaN,qa0,qap,qak,qcI,beq_self_eq_true,List.map_cons,List.map_nil,List.flatMap_cons,List.flatMap_nil,List.length_cons,List.length_nil,List.cons_append,List.nil_append,List.append_nil,List.getElem?_cons_zero,List.take_succ_cons,List.take_nil,List.not_mem_nil,↓reduceIte,Bool.and_true,Bool.and_false,Bool.false_and,Bool.or_false,Bool.false_eq_true,and_true,not_false_eq_true,decide_true,decide_false,Nat.le_refl,Nat.add_zero,Nat.zero_add,Nat.reduceEqDiff,Nat.reduceLT,Nat.reduceLeDiff,qau,qaO,qa6,Int.reduceBEq,qaQ,gt_iff_lt,qar,qaG,h1,h2,hi0,hdE,qaJ L hp,hp,bne]
   ·have e9:(op==9)=false:=by simpa using o9
    unfold qfq
    simp -implicitDefEqProofs only[qaq,qad,qa5,qae,qaf,qao,qab,qah,aOp,opd,qai,qav,qag,qbh,qbg,qaj,qaA,qaF,qaK,qaS,qac,qay,qam,qat,qaz,qaU,ren,renC,qa9,qbW,qca,qa8,qbz,qbo,qa7,qbx,qaa,qal,qbK,qaN,qa0,qap,qak,qcI,beq_self_eq_true,List.map_cons,List.map_nil,List.flatMap_cons,List.flatMap_nil,List.length_cons,List.length_nil,List.cons_append,List.nil_append,List.append_nil,List.getElem?_cons_zero,List.take_succ_cons,List.take_nil,List.not_mem_nil,↓reduceIte,Bool.and_true,Bool.false_and,Bool.or_false,Bool.false_eq_true,and_true,not_false_eq_true,decide_true,decide_false,Nat.le_refl,Nat.add_zero,Nat.zero_add,Nat.reduceEqDiff,Nat.reduceLT,Nat.reduceLeDiff,qau,qaO,qa6,qaQ,qar,qaG,h1,h2,e5,e9,hdE,qaJ L hp,hp,bne]
 refine qd1 binds (fun i _=>if qgo (kids.map (qtc e)) op binds i=true then some () else none)
  (fun i=>⟨kt [1,2,17,18] [.func 194 [] [.vptr [.list (e.map qaH) none] 0],.ptr (some (0,0)),.int .i64 binds.length,.int .i64 i],_⟩) _ _ ?_ ?_ ?_
 ·intro i hi hq
  rw[hround i hi,if_neg]
  intro hx
  simp[hx] at hq
 ·intro i hi r hq
  cases hx:qgo (kids.map (qtc e)) op binds i with
  | false=>simp[hx] at hq
  | true=>rw[hround i hi,if_pos hx]
 ·have h0:=qbF binds.length
  have hdE:=qa3 e
  unfold qfq
  simp -implicitDefEqProofs only[qad,qae,qaf,qbl,qab,qah,aOp,opd,qai,qav,qag,qbh,qbg,qaj,gcE,qaS,qac,qay,qam,qaz,qaU,ren,renC,qa9,qbW,qca,qa8,qaa,qal,qb1,List.map_cons,List.map_nil,List.flatMap_cons,List.flatMap_nil,List.length_cons,List.length_nil,List.append_nil,List.take_succ_cons,List.take_nil,↓reduceIte,Bool.false_eq_true,decide_false,Nat.le_refl,Nat.zero_add,Nat.reduceEqDiff,qau,qaQ,qar,qaG,h0,hdE]
theorem qxb (h265:L.fns 265=some fn265) (h264:L.fns 264=some fn264) (h266:L.fns 266=some fn266) (h258:L.fns 258=some fn258) (h259:L.fns 259=some fn259) (h234:L.fns 234=some fn234) (h235:L.fns 235=some fn235)
  (h194:L.fns 194=some fn194) (h193:L.fns 193=some fn193) (e:List CExpr) (x:CExpr) (hx:NodeFit x) (hk:∀ k∈x.kids,0≤k∧k.toNat<e.length) (h:Heap) :
  pcall L 193 [qaH x,.func 194 [] [.vptr [.list (e.map qaH) none] 0]] h=some (.val (.int .i64 (qo0 e x)),h):=by
 have hp:=hL.pure
 have hs:=quT hL h265 h264 h266 h258 h259 h234 x.op x.n x.binds x.kids x.alts hx.alts hx.binds
 have hr:=qsx hL h259 h235 x.op x.n x.binds x.kids x.alts hx.alts hx.binds hx.each
 have hdE:=qa3 e
 refine qbH hL h193 rfl ?_ h
 unfold qo0 qoQ qgD
 dsimp only
 rw[List.length_map]
 cases e1:qcz x.op x.n x.binds.length x.kids.length x.alts with
 | false =>
   rw[e1] at hs
   unfold fn193
   simp -implicitDefEqProofs only[qad,qae,qaf,qax,qab,qah,aOp,opd,qai,qan,qag,aUn,qbG,qaw,qaR,qas,qaB,qaI,qcj,qbA,qba,qbs,qaa,qal,qcd,qap,qak,Option.map_some,Option.getD_some,List.map_cons,List.map_nil,List.length_cons,List.length_nil,List.nil_append,List.getElem?_cons_zero,List.take_succ_cons,List.drop_zero,List.take_nil,↓reduceIte,Bool.and_true,Bool.not_false,and_self,Nat.le_refl,Nat.zero_add,Nat.reduceEqDiff,Nat.reduceAdd,qa4,qaD,qbB,qar,qaG,hs,hdE,qaJ L hp,hp]
 | true =>
   rw[e1] at hs
   have hl:=qxa hL h194 e x.op x.n x.binds x.kids x.alts hx.binds hk (fun h5=>by have:=qsP e1 h5;omega)
   simp only[Int.natCast_zero] at hl
   generalize qcP x.op x.n x.binds x.kids.length x.alts=r at *
   by_cases hr0:r=0
   ·subst hr0
    cases e3:qbr (fun i _=>if qgo (x.kids.map (qtc e)) x.op x.binds i=true then some () else none) x.binds 0 with
    | none =>
      simp only[e3,qcu] at hl
      unfold fn193
      simp -implicitDefEqProofs only[qaq,qad,qae,qaf,qax,qab,qah,aOp,opd,qai,qan,qag,qbh,qco,qbg,aUn,qaj,qaF,qbG,qaK,qaw,qaR,qas,qaB,qaI,qaL,qaS,qac,qay,qam,qat,qaz,qaU,ren,renC,qa9,qbW,qca,qa8,qcj,qbA,qba,qbs,qaa,qal,qcd,qbK,qaN,qa0,qap,qak,beq_self_eq_true,Option.map_some,Option.getD_some,List.map_cons,List.map_nil,List.flatMap_cons,List.flatMap_nil,List.length_cons,List.length_nil,List.length_map,List.nil_append,List.append_nil,List.getElem?_cons_zero,List.getElem?_cons_succ,List.take_succ_cons,List.drop_zero,List.take_nil,List.not_mem_nil,↓reduceIte,Bool.and_true,Bool.not_true,Bool.false_eq_true,Bool.true_eq_false,and_true,not_true_eq_false,not_false_eq_true,decide_false,and_self,Nat.le_refl,Nat.zero_add,Nat.reduceEqDiff,Nat.reduceAdd,Nat.reduceLT,Nat.reduceLeDiff,ne_eq,Option.isSome_none,qa4,qaD,qbB,qar,qaG,hs,hr,hl,hdE,qaJ L hp,hp,bne]
    | some u =>
      simp only[e3,qcu] at hl
      unfold fn193
      simp -implicitDefEqProofs only[qaq,qad,qae,qaf,qab,qah,aOp,opd,qai,qan,qav,qag,qbh,qco,qbg,aUn,qaj,qaF,qbG,qaK,qaw,qaR,qas,qaB,qaI,qaL,qaS,qac,qay,qam,qat,qaz,qaU,ren,renC,qa9,qbW,qca,qa8,qcj,qbA,qba,qbs,qaa,qal,qcd,qbK,qaN,qa0,qap,qak,beq_self_eq_true,Option.map_some,Option.getD_some,List.map_cons,List.map_nil,List.flatMap_cons,List.flatMap_nil,List.length_cons,List.length_nil,List.length_map,List.nil_append,List.append_nil,List.getElem?_cons_zero,List.getElem?_cons_succ,List.take_succ_cons,List.drop_zero,List.take_nil,List.not_mem_nil,↓reduceIte,Bool.and_true,Bool.not_true,Bool.false_eq_true,Bool.true_eq_false,and_true,not_true_eq_false,not_false_eq_true,decide_false,and_self,Nat.le_refl,Nat.zero_add,Nat.reduceEqDiff,Nat.reduceAdd,Nat.reduceLT,Nat.reduceLeDiff,ne_eq,Option.isSome_some,qa4,qaD,qbB,qar,qaG,hs,hr,hl,hdE,qaJ L hp,hp,bne]
   ·have hr1:(r==0)=false:=by simpa using hr0
    unfold fn193
    simp -implicitDefEqProofs only[qaq,qad,qae,qaf,qax,qab,qah,aOp,opd,qai,qan,qag,qbh,qbg,aUn,qaj,qbG,qaw,qaR,qas,qaB,qaI,qcj,qbA,qba,qbs,qaa,qal,qcd,qap,qak,Option.map_some,Option.getD_some,List.map_cons,List.map_nil,List.length_cons,List.length_nil,List.nil_append,List.getElem?_cons_zero,List.take_succ_cons,List.drop_zero,List.take_nil,↓reduceIte,Bool.and_true,Bool.not_true,Bool.not_false,Bool.false_eq_true,Bool.true_eq_false,not_false_eq_true,and_self,Nat.le_refl,Nat.zero_add,Nat.reduceEqDiff,Nat.reduceAdd,ne_eq,qa4,qaD,qbB,qar,qaG,hs,hr,hr0,hr1,hdE,qaJ L hp,hp,bne]
end
end Go.Abs
