/-
  PARTS OF A PROOF, joined: an abstract machine for quiet code, its evaluation, and what the seat's functions answer on it. Conditions: none.
-/
import Derived.Test.YtbmognfolkhkpaaDoorCoreE
import Derived.Test.YtbmognfolkhkpaaDoorC
set_option linter.unusedVariables false
set_option linter.unusedSimpArgs false
set_option maxRecDepth 100000
set_option maxHeartbeats 4000000
namespace Go.Abs
def qye (l:List Int) (n:Int):Int:=(qbr (fun i x=>if (n==x)=true then some (i:Int) else none) l 0).getD (-1)
def qqA (l:List Int) (n:Int):Bool:=l.any fun x=>x==n
theorem qpM (n:Int):∀ (l:List Int) (k:Nat),(∀ r,qbr (fun i x=>if (n==x)=true then some (i:Int) else none) l k=some r→0≤r)∧(qbr (fun i x=>if (n==x)=true then some (i:Int) else none) l k).isSome=qqA l n
 | [],k=>⟨fun r h=>by (cases h),rfl⟩
 | x :: xs,k => by
   obtain⟨h1,h2⟩:=qpM n xs (k+1)
   rw[qbr]
   unfold qqA at h2 ⊢
   rw[List.any_cons]
   by_cases hx:n=x
   ·subst hx
    simp only[beq_self_eq_true,if_true]
    exact⟨fun r h=>by injection h with h;omega,rfl⟩
   ·have e1:(n==x)=false:=by simpa using hx
    have e2:(x==n)=false:=by simpa using fun h=>hx h.symm
    simp only[e1,e2,Bool.false_eq_true,if_false,Bool.false_or]
    exact⟨h1,h2⟩
theorem qt4 (l:List Int) (n:Int):decide (0≤qye l n)=qqA l n:=by
 obtain⟨h1,h2⟩:=qpM n l 0
 unfold qye
 cases hq:qbr (fun i x=>if (n==x)=true then some (i:Int) else none) l 0 with
 | none =>
   rw[hq] at h2
   rw[← h2]
   rfl
 | some r =>
   rw[hq] at h2
   have:=h1 r hq
   rw[← h2]
   simpa using this
section
variable {L:Lib} (hL:Plain L)
include hL
theorem qeZ (hf:L.fns 259=some fn259) (n a b:Int) (h:Heap):pcall L 259 [.int .i64 n,.int .i64 a,.int .i64 b] h=some (.val (.bool (decide (a≤n∧n≤b))),h):=by
 refine qbH hL hf rfl ?_ h
 unfold fn259
 by_cases h1:a≤n
 ·by_cases h2:n≤b
  ·simp -implicitDefEqProofs only[qad,qae,qax,qab,qaC,qah,aOp,opd,qai,qan,qag,qbh,qbg,qaj,qaA,qaR,qas,qaB,qaI,qbf,beq_self_eq_true,Option.getD_some,List.getElem?_cons_zero,List.getElem?_cons_succ,↓reduceIte,Bool.false_eq_true,decide_true,and_self,reduceCtorEq,Nat.reduceEqDiff,ge_iff_le,qaD,h1,h2]
  ·simp -implicitDefEqProofs only[qad,qae,qax,qab,qaC,qah,aOp,opd,qai,qan,qag,qbh,qbg,qaj,qaA,qaR,qas,qaB,qaI,qbf,beq_self_eq_true,Option.getD_some,List.getElem?_cons_zero,List.getElem?_cons_succ,↓reduceIte,Bool.false_eq_true,and_false,decide_true,decide_false,reduceCtorEq,Nat.reduceEqDiff,ge_iff_le,qaD,h1,h2]
 ·simp -implicitDefEqProofs only[qad,qae,qax,qab,qaC,qah,aOp,opd,qai,qan,qag,qbh,qbg,qaj,qaA,qaR,qas,qaB,qaI,qbf,qcI,Option.getD_some,List.getElem?_cons_zero,List.getElem?_cons_succ,↓reduceIte,Bool.false_eq_true,false_and,decide_false,reduceCtorEq,Nat.reduceEqDiff,ge_iff_le,qaD,h1]
def qjL (op:Int):Bool:=op==2 || op==5 || op==12 || op==13
def qjN (op:Int):Bool:=op==14 || op==15 || op==16
theorem qoP (hf:L.fns 191=some fn191) (op:Int) (h:Heap):pcall L 191 [.int .i64 op] h=some (.val (.bool (qjL op)),h):=by
 refine qbH hL hf rfl ?_ h
 unfold fn191 qjL
 cases h1:op==2<;>cases h2:op==5<;>cases h3:op==12<;>cases h4:op==13<;>simp -implicitDefEqProofs only[qad,qae,qax,qab,qaC,qah,aOp,opd,qai,qan,qag,qbh,qbg,qaj,qaA,qaR,qas,qaB,qaI,qbf,qdj,beq_self_eq_true,Option.getD_some,List.getElem?_cons_zero,↓reduceIte,Bool.or_true,Bool.or_false,Bool.false_eq_true,reduceCtorEq,Nat.reduceEqDiff,qaD,h1,h2,h3,h4]
theorem qoS (hf:L.fns 192=some fn192) (op:Int) (h:Heap):pcall L 192 [.int .i64 op] h=some (.val (.bool (qjN op)),h):=by
 refine qbH hL hf rfl ?_ h
 unfold fn192 qjN
 cases h1:op==14<;>cases h2:op==15<;>cases h3:op==16<;>simp -implicitDefEqProofs only[qad,qae,qax,qab,qaC,qah,aOp,opd,qai,qan,qag,qbh,qbg,qaj,qaA,qaR,qas,qaB,qaI,qbf,qdj,beq_self_eq_true,Option.getD_some,List.getElem?_cons_zero,↓reduceIte,Bool.or_true,Bool.or_false,Bool.false_eq_true,reduceCtorEq,Nat.reduceEqDiff,qaD,h1,h2,h3]
theorem qt5 (hf:L.fns 181=some fn181) (l:List Int) (hl:l.length<2 ^ 30) (n:Int) (h:Heap):pcall L 181 [.list (l.map qaP) none,.int .i64 n] h=some (.val (.int .i64 (qye l n)),h):=by
 have hp:=hL.pure
 have hloop:qcg L.pure (call L) 0 [0,1,7,8] [4] 0 qiq ⟨kt [0,1,7,8] [.list (l.map qaP) none,.int .i64 n,.int .i64 l.length,.int .i64 ((0:Nat):Int)],[]⟩ =
   some (qcu (fun r=>⟨kt [4] [.int .i64 r],[]⟩) ⟨kt [4] [.junk],[]⟩ (qbr (fun i x=>if (n==x)=true then some (i:Int) else none) l 0)):=by
  refine qd1 l (fun i x=>if (n==x)=true then some (i:Int) else none) (fun i=>⟨kt [0,1,7,8] [.list (l.map qaP) none,.int .i64 n,.int .i64 l.length,.int .i64 i],[]⟩) _ _ ?_ ?_ ?_
  ·intro i hi hq
   obtain⟨h1,h2,h3⟩:=qbE qaP l hl i hi
   have hq:(n==l[i])=false:=by
    cases hx:n==l[i] with
    | false=>rfl
    | true=>simp[hx] at hq
   generalize l[i]=a at *
   unfold qiq
   simp -implicitDefEqProofs only[qaq,qad,qae,qaf,qao,qab,qah,aOp,opd,qai,qav,qag,qbh,qbg,qaE,qaj,qaF,qaW,qaS,qac,qay,qam,qaz,qaU,ren,renC,qbp,qbW,qca,qaa,qal,Option.getD_none,List.map_cons,List.map_nil,List.flatMap_cons,List.flatMap_nil,List.length_cons,List.length_nil,List.append_nil,List.getElem?_nil,List.getElem?_cons_zero,List.take_nil,↓reduceIte,Bool.false_eq_true,decide_true,decide_false,Nat.le_refl,reduceCtorEq,Nat.zero_add,Nat.reduceEqDiff,Int.toNat_natCast,Int.natCast_nonneg,qau,qaQ,qb0,qar,h1,h2,h3,hq]
  ·intro i hi r hq
   obtain⟨h1,h2,h3⟩:=qbE qaP l hl i hi
   have hx:(n==l[i])=true:=by
    cases hx:n==l[i] with
    | true=>rfl
    | false=>simp[hx] at hq
   rw[if_pos hx] at hq
   injection hq with hq
   subst hq
   generalize l[i]=a at *
   unfold qiq
   simp -implicitDefEqProofs only[qaq,qad,qae,qaf,qao,qax,qab,qah,aOp,opd,qai,qav,qag,qbh,qbg,qaE,qaj,qaF,qaW,gcE,qaS,qac,qay,qam,qaz,qaU,ren,renC,qbp,qbW,qca,qal,Option.getD_none,List.map_cons,List.map_nil,List.flatMap_cons,List.flatMap_nil,List.length_cons,List.length_nil,List.append_nil,List.getElem?_nil,List.getElem?_cons_zero,List.take_nil,↓reduceIte,Bool.false_eq_true,decide_true,decide_false,Nat.le_refl,reduceCtorEq,Nat.zero_add,Nat.reduceEqDiff,Int.toNat_natCast,Int.natCast_nonneg,qau,qaQ,qb0,h1,h2,h3,hx]
  ·have h0:=qbF l.length
   unfold qiq
   simp -implicitDefEqProofs only[qad,qae,qaf,qbl,qab,qah,aOp,opd,qai,qav,qag,qbh,qbg,qaj,gcE,qaS,qac,qay,qam,qaz,qaU,ren,renC,qbp,qbW,qca,qb1,Option.getD_none,List.map_cons,List.map_nil,List.flatMap_cons,List.flatMap_nil,List.length_nil,List.append_nil,List.getElem?_nil,List.take_nil,↓reduceIte,Bool.false_eq_true,decide_false,Nat.le_refl,reduceCtorEq,Nat.reduceEqDiff,qau,qaQ,h0]
 simp only[Int.natCast_zero] at hloop
 unfold qye
 refine qbH hL hf rfl ?_ h
 unfold fn181
 cases hq:qbr (fun i x=>if (n==x)=true then some (i:Int) else none) l 0<;>simp only[hq,qcu] at hloop<;>simp -implicitDefEqProofs only[qad,qae,qax,qab,qah,aOp,opd,qai,qan,qav,qag,qco,qaR,qas,qaB,qaI,qaL,qaS,qac,qay,qam,qaz,qaU,ren,renC,qbp,qbW,qca,qbA,qaa,qal,Option.getD_some,Option.getD_none,List.map_cons,List.map_nil,List.flatMap_cons,List.flatMap_nil,List.length_nil,List.length_map,List.append_nil,List.getElem?_nil,List.getElem?_cons_zero,List.getElem?_cons_succ,List.take_nil,↓reduceIte,Bool.false_eq_true,decide_false,Nat.le_refl,reduceCtorEq,Nat.reduceEqDiff,Int.reduceNeg,qaD,qar,hloop]
theorem qkr (h181:L.fns 181=some fn181) (hf:L.fns 151=some fn151) (l:List Int) (hl:l.length<2 ^ 30) (n:Int) (h:Heap):pcall L 151 [.list (l.map qaP) none,.int .i64 n] h=some (.val (.bool (qqA l n)),h):=by
 have hp:=hL.pure
 have h1:=qt5 hL h181 l hl n
 have h2:=qt4 l n
 refine qbH hL hf rfl ?_ h
 unfold fn151
 simp -implicitDefEqProofs only[qad,qae,qax,qab,qah,aOp,opd,qai,qan,qag,qbh,qbg,qaj,qaR,qas,qaB,qaI,qbc,qby,qbf,qaa,qal,qap,qak,Option.getD_some,List.map_cons,List.map_nil,List.getElem?_cons_zero,List.getElem?_cons_succ,↓reduceIte,Bool.and_true,Bool.false_eq_true,and_self,reduceCtorEq,Nat.reduceEqDiff,ge_iff_le,qa4,qaD,qar,h1,h2,qaJ L hp,hp]
end
def qyd {α:Type} (p:α→Bool) (xs:List α):Int:=match qbr (fun i a=>if p a=true then some i else none) xs 0 with | some i=>(i:Nat) | none => -1
theorem qik {α:Type} (p:α→Bool):∀ (xs:List α) (k:Nat),(qbr (fun i a=>if p a=true then some i else none) xs k).isSome=xs.any p
 | [],k=>rfl
 | x :: xs,k => by
   rw[qbr,List.any_cons]
   cases hp:p x
   ·simp only[Bool.false_eq_true,if_false,Bool.false_or]
    exact qik p xs (k+1)
   ·rfl
theorem qt3 {α:Type} (p:α→Bool) (xs:List α):decide (0≤qyd p xs)=xs.any p:=by
 rw[← qik p xs 0]
 unfold qyd
 cases qbr (fun i a=>if p a=true then some i else none) xs 0<;>simp
theorem qqJ (x y:Int):qf4 false [.int .i64 x,.int .i64 y]=some (.int .i64 (min x y)):=by
 simp only[qf4,if_true,Bool.false_eq_true,if_false]
 congr 2
 split<;>omega
theorem qfM (x y:Int):qf4 true [.int .i64 x,.int .i64 y]=some (.int .i64 (max x y)):=by
 simp only[qf4,if_true]
 congr 2
 split<;>omega
theorem qxQ {L:Lib} (hL:Plain L) (hf:L.fns 266=some fn266) (f:AVal) (hd:qa2 f=true) (hk:∃ g a c,f=.func g a c) (p:CAlt→Bool) (xs:List CAlt) (hl:xs.length<2 ^ 30)
  (hg:∀ a∈xs,∀ h:Heap,(match f with | .func g u c=>qdZ L.pure (call L) g (u++.agg [.int .i64 a.tag,.list (a.binds.map qaP) none]::c) h | _=>none)=some (.val (.bool (p a)),h)) (h:Heap) :
  pcall L 266 [.list (xs.map qaM) none,f] h=some (.val (.int .i64 (qyd p xs)),h):=by
 have hp:=hL.pure
 obtain⟨g,u,c,rfl⟩:=hk
 dsimp only at hg
 refine qbH hL hf rfl ?_ h
 have hloop:=qd1 (pure:=L.pure) (call:=call L) (b:=0) (keep:=[0,1,7,8]) (fk:=[4]) (id:=0) (body:=qiu) xs (fun i a=>if p a=true then some i else none)
  (fun i=>⟨kt [0,1,7,8] [.list (xs.map qaM) none,.func g u c,.int .i64 xs.length,.int .i64 i],[]⟩) ⟨kt [4] [.junk],[]⟩ (fun i=>⟨kt [4] [.int .i64 i],[]⟩)
  (by
   intro i hi hq
   have h1:((i:Int)<xs.length):=by omega
   have h2:IntKind.i64.wrap ((i:Int)+1)=((i+1:Nat):Int):=by rw[qd3 (by omega) (by omega)];rfl
   have h3:(xs.map qaM)[i]? = some (qaM xs[i]):=by simp[hi]
   have h5:=hg xs[i] (List.getElem_mem hi)
   have h6:p xs[i]=false:=by cases hx:p xs[i]<;>simp[hx] at hq ⊢
   generalize xs[i]=a at *
   unfold qiu
   simp -implicitDefEqProofs only[qaq,qad,qae,qaf,qao,qab,qah,aOp,opd,qai,qav,qag,qbh,qbg,qaE,qaj,qbG,qaw,qaS,qac,qay,qam,qaz,qaU,ren,renC,qbp,qbW,qca,qaa,qal,Option.map_some,Option.getD_none,List.map_cons,List.map_nil,List.flatMap_cons,List.flatMap_nil,List.length_cons,List.length_nil,List.cons_append,List.nil_append,List.append_nil,List.append_assoc,List.getElem?_nil,List.take_succ_cons,List.drop_zero,List.take_nil,↓reduceIte,Bool.false_eq_true,decide_true,decide_false,Nat.le_refl,reduceCtorEq,Nat.zero_add,Nat.reduceEqDiff,Nat.reduceAdd,Int.toNat_natCast,Int.natCast_nonneg,qau,qaQ,qbD,qaG,hd,h1,h2,h3,h5,h6,reduceCtorEq])
  (by
   intro i hi r hq
   have h1:((i:Int)<xs.length):=by omega
   have h3:(xs.map qaM)[i]? = some (qaM xs[i]):=by simp[hi]
   have h5:=hg xs[i] (List.getElem_mem hi)
   have h6:p xs[i]=true:=by cases hx:p xs[i]<;>simp[hx] at hq ⊢
   have h7:i=r:=by simpa[h6] using hq
   subst h7
   generalize xs[i]=a at *
   unfold qiu
   simp -implicitDefEqProofs only[qaq,qad,qae,qaf,qao,qax,qab,qah,aOp,opd,qai,qav,qag,qbh,qbg,qaE,qaj,qbG,qaw,gcE,qaS,qac,qay,qam,qaz,qaU,ren,renC,qbp,qbW,qca,qal,Option.map_some,Option.getD_none,List.map_cons,List.map_nil,List.flatMap_cons,List.flatMap_nil,List.length_cons,List.length_nil,List.cons_append,List.nil_append,List.append_nil,List.append_assoc,List.getElem?_nil,List.take_succ_cons,List.drop_zero,List.take_nil,↓reduceIte,Bool.false_eq_true,decide_true,decide_false,Nat.le_refl,reduceCtorEq,Nat.zero_add,Nat.reduceEqDiff,Nat.reduceAdd,Int.toNat_natCast,Int.natCast_nonneg,qau,qaQ,qbD,hd,h1,h3,h5,h6,reduceCtorEq])
  (by
   have h0:¬ ((xs.length:Int)<xs.length):=by omega
   unfold qiu
   simp -implicitDefEqProofs only[qad,qae,qaf,qbl,qab,qah,aOp,opd,qai,qav,qag,qbh,qbg,qaj,gcE,qaS,qac,qay,qam,qaz,qaU,ren,renC,qbp,qbW,qca,qb1,Option.getD_none,List.map_cons,List.map_nil,List.flatMap_cons,List.flatMap_nil,List.length_nil,List.append_nil,List.getElem?_nil,List.take_nil,↓reduceIte,Bool.false_eq_true,decide_false,Nat.le_refl,reduceCtorEq,Nat.reduceEqDiff,qau,qaQ,hd,h0,reduceCtorEq])
 simp only[Int.natCast_zero] at hloop
 unfold fn266 qyd
 cases hq:qbr (fun i a=>if p a=true then some i else none) xs 0<;>simp only[hq,qcu] at hloop<;>simp -implicitDefEqProofs only[qad,qae,qax,qab,qah,aOp,opd,qai,qan,qav,qag,qco,qaR,qas,qaB,qaI,qaL,qaS,qac,qay,qam,qaz,qaU,ren,renC,qbp,qbW,qca,qbA,qaa,qal,Option.getD_some,Option.getD_none,List.map_cons,List.map_nil,List.flatMap_cons,List.flatMap_nil,List.length_nil,List.length_map,List.append_nil,List.getElem?_nil,List.getElem?_cons_zero,List.getElem?_cons_succ,List.take_nil,↓reduceIte,Bool.false_eq_true,decide_false,Nat.le_refl,reduceCtorEq,Nat.reduceEqDiff,Int.reduceNeg,qaD,qaG,hd,hloop,hq]
theorem qxF {L:Lib} (hL:Plain L) (hf:L.fns 264=some fn264) (hfi:L.fns 266=some fn266) (f:AVal) (hd:qa2 f=true) (hk:∃ g a c,f=.func g a c) (p:CAlt→Bool) (xs:List CAlt) (hl:xs.length<2 ^ 30)
  (hg:∀ a∈xs,∀ h:Heap,(match f with | .func g u c=>qdZ L.pure (call L) g (u++.agg [.int .i64 a.tag,.list (a.binds.map qaP) none]::c) h | _=>none)=some (.val (.bool (p a)),h)) (h:Heap) :
  pcall L 264 [.list (xs.map qaM) none,f] h=some (.val (.bool (xs.any p)),h):=by
 have hp:=hL.pure
 have hi:=qxQ hL hfi f hd hk p xs hl hg
 obtain⟨g,u,c,rfl⟩:=hk
 refine qbH hL hf rfl ?_ h
 have ha:=qt3 p xs
 unfold fn264
 cases hq:xs.any p<;>rw[hq] at ha<;>simp -implicitDefEqProofs only[qad,qae,qax,qab,qah,aOp,opd,qai,qan,qag,qbh,qbg,qaj,qaR,qas,qaB,qaI,qbc,qbf,qcy,qaa,qap,qak,Option.getD_some,List.map_cons,List.map_nil,List.nil_append,List.append_nil,List.getElem?_cons_zero,List.getElem?_cons_succ,↓reduceIte,Bool.and_true,Bool.false_eq_true,reduceCtorEq,Nat.reduceEqDiff,ge_iff_le,qaD,qaG,hd,hi,qaJ L hp,hp,ha]
def qib (op:Int) (as:List CAlt) (i:Nat) (a:CAlt):Bool :=
 (as.take i).any (fun b=>b.tag==a.tag) || decide (a.tag < -1) || (op==7 && a.tag == -1 && (decide ((i:Int)<as.length-1) || decide ((0:Int)<a.binds.length))) ||
 (op==13 && (((i:Int)==0) != (a.tag == -1))) || (op==13 && ((a.binds.length:Int) != min ((i:Int)+1) 2))
def qic (op:Int) (as:List CAlt) (kids:Nat):Bool :=
 (qbr (fun i a=>if qib op as i a=true then some () else none) as 0).isNone && ((kids:Int)==1+(as.length:Int)) && (op==7 || decide ((0:Int)<as.length))
theorem qtg (c:CAlt) {L:Lib} (hL:Plain L) (hf:L.fns 265=some fn265) (a:CAlt) (h:Heap) :
  pcall L 265 [.agg [.int .i64 a.tag,.list (a.binds.map qaP) none],.vptr [.int .i64 c.tag,.list (c.binds.map qaP) none] 0] h=some (.val (.bool (a.tag==c.tag)),h):=by
 refine qbH hL hf rfl ?_ h
 unfold fn265
 simp -implicitDefEqProofs only[qad,qae,qax,qab,qah,aOp,opd,qai,qan,qag,qbh,qbg,qaj,qaF,qaK,qaw,qaR,qas,qaB,qaI,qbf,Option.getD_some,List.length_nil,List.nil_append,List.getElem?_cons_zero,List.getElem?_cons_succ,↓reduceIte,Bool.false_eq_true,Nat.add_zero,Nat.reduceEqDiff,qaD]
section
variable {L:Lib} (hL:Plain L)
include hL
theorem qqg (h265:L.fns 265=some fn265) (h264:L.fns 264=some fn264) (h266:L.fns 266=some fn266) (op n:Int) (binds kids:List Int) (as:List CAlt) (hl:as.length<2 ^ 30) (i:Nat) (hi:i<as.length) :
  qch L.pure (call L) 1 [1,7,8,9] [1,2] qdM ⟨kt [1,7,8,9] [.ptr (some (0,0)),.list (as.map qaM) none,.int .i64 as.length,.int .i64 i],[.box [.int .i64 op,.int .i64 n,.list (binds.map qaP) none,.list (kids.map qaP) none,.list (as.map qaM) none]]⟩ =
  some (if qib op as i as[i]=true then (.ret,⟨kt [1,2] [.ptr (some (0,0)),.bool false],[.box [.int .i64 op,.int .i64 n,.list (binds.map qaP) none,.list (kids.map qaP) none,.list (as.map qaM) none]]⟩) else
   (.normal,⟨kt [1,7,8,9] [.ptr (some (0,0)),.list (as.map qaM) none,.int .i64 as.length,.int .i64 ((i+1:Nat):Int)],[.box [.int .i64 op,.int .i64 n,.list (binds.map qaP) none,.list (kids.map qaP) none,.list (as.map qaM) none]]⟩)):=by
 have hp:=hL.pure
 obtain⟨h1,h2,h3⟩:=qbE qaM as hl i hi
 have h4:(i:Int)≤as.length:=by omega
 have h5:(as.map qaM).take i=(as.take i).map qaM:=by rw[List.map_take]
 have hcon:=qxF hL h264 h266 (.func 265 [] [.vptr [.int .i64 as[i].tag,.list (as[i].binds.map qaP) none] 0]) (by simp only[qa2,qaZ,qar,Bool.and_self]) ⟨_,_,_,rfl⟩
  (fun b=>b.tag==as[i].tag) (as.take i) (by simp;omega)
  (by
   intro a ha h
   have:=qtg as[i] hL h265 a h
   dsimp only
   simp -implicitDefEqProofs only[qcj,qbS,qba,qbs,qaa,qal,qcd,qaN,qap,qak,List.map_cons,List.map_nil,List.nil_append,↓reduceIte,Bool.and_true,qar,this,qaJ L hp,hp])
 have h6:IntKind.i64.wrap ((as.length:Int)-1)=(as.length:Int)-1:=qd3 (by omega) (by omega)
 unfold qib
 generalize ha:as[i]=a at *
 generalize (as.take i).any (fun b=>b.tag==a.tag)=again at *
 cases again with
 | true =>
   unfold qdM
   simp -implicitDefEqProofs only[qaq,qad,qae,qaf,qao,qax,qab,qaC,qah,aOp,opd,qai,qa1,qav,qag,qaV,qbh,qbg,qaE,qaj,qaA,qaF,qbC,qbG,qaK,leaf,qaw,qaT,gcE,qaS,qac,qay,qam,qat,qaz,qaU,ren,renC,qa9,qbW,qca,qa8,qbc,qcy,qba,qbs,qaa,qbI,qal,qbK,qaN,qa0,qap,qak,qdj,Option.map_some,Option.map_none,List.map_cons,List.map_nil,List.flatMap_cons,List.flatMap_nil,List.length_cons,List.length_nil,List.length_map,List.cons_append,List.nil_append,List.append_nil,List.getElem?_cons_zero,List.getElem?_cons_succ,List.set_cons_zero,List.set_cons_succ,List.take_succ_cons,List.take_zero,List.drop_succ_cons,List.drop_zero,List.take_nil,List.drop_nil,List.all_cons,List.all_nil,List.not_mem_nil,↓reduceIte,Bool.and_true,Bool.true_or,Bool.false_eq_true,and_true,false_and,not_false_eq_true,decide_true,decide_false,and_self,Nat.le_refl,reduceCtorEq,Nat.zero_add,Nat.reduceEqDiff,Nat.reduceAdd,Nat.reduceLT,Nat.reduceLeDiff,Int.reduceToNat,Int.toNat_natCast,Int.natCast_nonneg,qau,Int.reduceNeg,qaQ,Int.cast_ofNat_Int,qb6,qck,qcJ,qdp,frz,frzC,qjV,qfo,qfm,qbD,qar,qaG,qes,Int.le_refl,h1,h2,h3,h4,h5,hcon,qaJ L hp,hp]
 | false =>
   by_cases hlt:a.tag < -1
   ·unfold qdM
    simp -implicitDefEqProofs only[qaq,qad,qae,qaf,qao,qax,qab,qaC,qah,aOp,opd,qai,qa1,qav,qag,qaV,qbh,qbg,qaE,qaj,qaA,qaF,qbC,qbG,qaK,leaf,qaw,qaT,gcE,qaS,qac,qay,qam,qat,qaz,qaU,ren,renC,qa9,qbW,qca,qa8,qbc,qcy,qba,qbs,qaa,qbI,qal,qbK,qaN,qa0,qap,qak,beq_self_eq_true,Option.map_some,Option.map_none,List.map_cons,List.map_nil,List.flatMap_cons,List.flatMap_nil,List.length_cons,List.length_nil,List.length_map,List.cons_append,List.nil_append,List.append_nil,List.getElem?_cons_zero,List.getElem?_cons_succ,List.set_cons_zero,List.set_cons_succ,List.take_succ_cons,List.take_zero,List.drop_succ_cons,List.drop_zero,List.take_nil,List.drop_nil,List.all_cons,List.all_nil,List.not_mem_nil,↓reduceIte,Bool.and_true,Bool.or_true,Bool.true_or,Bool.false_eq_true,and_true,false_and,not_false_eq_true,decide_true,decide_false,and_self,Nat.le_refl,reduceCtorEq,Nat.add_zero,Nat.zero_add,Nat.reduceEqDiff,Nat.reduceAdd,Nat.reduceLT,Nat.reduceLeDiff,Int.reduceToNat,Int.toNat_natCast,Int.natCast_nonneg,qau,Int.reduceNeg,qaQ,Int.cast_ofNat_Int,qb6,qck,qcJ,qdp,frz,frzC,qjV,qfo,qfm,qbD,qar,qaG,qes,Int.le_refl,h1,h2,h3,h4,h5,hcon,qaJ L hp,hp,hlt]
   ·cases h7:op==7 with
    | true =>
      have h13:(op==13)=false:=by
       have:op=7:=by simpa using h7
       subst this;rfl
      cases hm:a.tag == -1 with
      | true =>
        by_cases hq:(i:Int)<as.length-1
        ·unfold qdM
         simp -implicitDefEqProofs only[qaq,qad,qae,qaf,qao,qax,qab,qaC,qah,aOp,opd,qai,qa1,qav,qag,qaV,qbh,qco,qbg,qaE,qaj,qaA,qaF,qbC,qbG,qaK,leaf,qaw,qaT,gcE,qaS,qac,qay,qam,qat,qaz,qaU,ren,renC,qa9,qbW,qca,qa8,qbc,qcy,qba,qbs,qaa,qbI,qal,qbK,qaN,qa0,qap,qak,qdj,beq_self_eq_true,Option.map_some,Option.map_none,List.map_cons,List.map_nil,List.flatMap_cons,List.flatMap_nil,List.length_cons,List.length_nil,List.length_map,List.cons_append,List.nil_append,List.append_nil,List.getElem?_cons_zero,List.getElem?_cons_succ,List.set_cons_zero,List.set_cons_succ,List.take_succ_cons,List.take_zero,List.drop_succ_cons,List.drop_zero,List.take_nil,List.drop_nil,List.all_cons,List.all_nil,List.not_mem_nil,↓reduceIte,Bool.and_true,Bool.false_and,Bool.or_true,Bool.true_or,Bool.or_false,Bool.false_eq_true,and_true,false_and,not_false_eq_true,decide_true,decide_false,and_self,Nat.le_refl,reduceCtorEq,Nat.add_zero,Nat.zero_add,Nat.reduceEqDiff,Nat.reduceAdd,Nat.reduceLT,Nat.reduceLeDiff,Int.reduceToNat,Int.toNat_natCast,Int.natCast_nonneg,qau,Int.reduceNeg,qaQ,Int.cast_ofNat_Int,qb6,qck,qcJ,qdp,frz,frzC,qjV,qfo,qfm,qbD,qar,qaG,qes,Int.le_refl,h1,h2,h3,h4,h5,h6,hcon,qaJ L hp,hp,hlt,h7,h13,hm,hq]
        ·by_cases hb:(0:Int)<a.binds.length
         ·unfold qdM
          simp -implicitDefEqProofs only[qaq,qad,qae,qaf,qao,qax,qab,qaC,qah,aOp,opd,qai,qa1,qav,qag,qaV,qbh,qco,qbg,qaE,qaj,qaA,qaF,qbC,qbG,qaK,leaf,qaw,qaT,gcE,qaS,qac,qay,qam,qat,qaz,qaU,ren,renC,qa9,qbW,qca,qa8,qbc,qcy,qba,qbs,qaa,qbI,qal,qbK,qaN,qa0,qap,qak,beq_self_eq_true,Option.map_some,Option.map_none,List.map_cons,List.map_nil,List.flatMap_cons,List.flatMap_nil,List.length_cons,List.length_nil,List.length_map,List.cons_append,List.nil_append,List.append_nil,List.getElem?_cons_zero,List.getElem?_cons_succ,List.set_cons_zero,List.set_cons_succ,List.take_succ_cons,List.take_zero,List.drop_succ_cons,List.drop_zero,List.take_nil,List.drop_nil,List.all_cons,List.all_nil,List.not_mem_nil,↓reduceIte,Bool.and_true,Bool.false_and,Bool.or_true,Bool.or_false,Bool.false_eq_true,and_true,false_and,not_false_eq_true,decide_true,decide_false,and_self,Nat.le_refl,reduceCtorEq,Nat.add_zero,Nat.zero_add,Nat.reduceEqDiff,Nat.reduceAdd,Nat.reduceLT,Nat.reduceLeDiff,Int.reduceToNat,Int.toNat_natCast,Int.natCast_nonneg,qau,Int.reduceNeg,qaQ,Int.cast_ofNat_Int,gt_iff_lt,qb6,qck,qcJ,qdp,frz,frzC,qjV,qfo,qfm,qbD,qar,qaG,qes,Int.le_refl,h1,h2,h3,h4,h5,h6,hcon,qaJ L hp,hp,hlt,h7,h13,hm,hq,hb]
         ·unfold qdM
          simp -implicitDefEqProofs only[qaq,qad,qae,qaf,qao,qab,qaC,qah,aOp,opd,qai,qa1,qav,qag,qaV,qbh,qco,qbg,qaE,qaj,qaA,qaF,qbC,qbG,qaK,leaf,qaw,qaT,qaS,qac,qay,qam,qat,qaz,qaU,ren,renC,qa9,qbW,qca,qa8,qbc,qcy,qba,qbs,qaa,qal,qbK,qaN,qa0,qap,qak,qcI,beq_self_eq_true,Option.map_some,Option.map_none,List.map_cons,List.map_nil,List.flatMap_cons,List.flatMap_nil,List.length_cons,List.length_nil,List.length_map,List.cons_append,List.nil_append,List.append_nil,List.getElem?_cons_zero,List.getElem?_cons_succ,List.set_cons_zero,List.set_cons_succ,List.take_succ_cons,List.take_zero,List.drop_succ_cons,List.drop_zero,List.take_nil,List.drop_nil,List.all_cons,List.all_nil,List.not_mem_nil,↓reduceIte,Bool.and_true,Bool.and_false,Bool.false_and,Bool.or_false,Bool.false_eq_true,and_true,false_and,not_false_eq_true,decide_true,decide_false,and_self,Nat.le_refl,reduceCtorEq,Nat.add_zero,Nat.zero_add,Nat.reduceEqDiff,Nat.reduceAdd,Nat.reduceLT,Nat.reduceLeDiff,Int.reduceToNat,Int.toNat_natCast,Int.natCast_nonneg,qau,Int.reduceNeg,qaQ,Int.cast_ofNat_Int,gt_iff_lt,qb6,qck,qcJ,qdp,frz,frzC,qjV,qfo,qfm,qbD,qar,qaG,qes,Int.le_refl,h1,h2,h3,h4,h5,h6,hcon,qaJ L hp,hp,hlt,h7,h13,hm,hq,hb]
      | false =>
        unfold qdM
        simp -implicitDefEqProofs only[qaq,qad,qae,qaf,qao,qab,qaC,qah,aOp,opd,qai,qa1,qav,qag,qaV,qbh,qbg,qaE,qaj,qaA,qaF,qbC,qbG,qaK,leaf,qaw,qaT,qaS,qac,qay,qam,qat,qaz,qaU,ren,renC,qa9,qbW,qca,qa8,qbc,qcy,qba,qbs,qaa,qal,qbK,qaN,qa0,qap,qak,qcI,beq_self_eq_true,Option.map_some,Option.map_none,List.map_cons,List.map_nil,List.flatMap_cons,List.flatMap_nil,List.length_cons,List.length_nil,List.length_map,List.cons_append,List.nil_append,List.append_nil,List.getElem?_cons_zero,List.getElem?_cons_succ,List.set_cons_zero,List.set_cons_succ,List.take_succ_cons,List.take_zero,List.drop_succ_cons,List.drop_zero,List.take_nil,List.drop_nil,List.all_cons,List.all_nil,List.not_mem_nil,↓reduceIte,Bool.and_true,Bool.and_false,Bool.false_and,Bool.or_false,Bool.false_eq_true,and_true,false_and,not_false_eq_true,decide_true,decide_false,and_self,Nat.le_refl,reduceCtorEq,Nat.add_zero,Nat.zero_add,Nat.reduceEqDiff,Nat.reduceAdd,Nat.reduceLT,Nat.reduceLeDiff,Int.reduceToNat,Int.toNat_natCast,Int.natCast_nonneg,qau,Int.reduceNeg,qaQ,Int.cast_ofNat_Int,qb6,qck,qcJ,qdp,frz,frzC,qjV,qfo,qfm,qbD,qar,qaG,qes,Int.le_refl,h1,h2,h3,h4,h5,h6,hcon,qaJ L hp,hp,hlt,h7,h13,hm]
    | false =>
      cases h13:op==13 with
      | false =>
        unfold qdM
        simp -implicitDefEqProofs only[qaq,qad,qae,qaf,qao,qab,qaC,qah,aOp,opd,qai,qa1,qav,qag,qaV,qbh,qbg,qaE,qaj,qaA,qaF,qbC,qbG,qaK,leaf,qaw,qaT,qaS,qac,qay,qam,qat,qaz,qaU,ren,renC,qa9,qbW,qca,qa8,qbc,qcy,qba,qbs,qaa,qal,qbK,qaN,qa0,qap,qak,qcI,beq_self_eq_true,Option.map_some,Option.map_none,List.map_cons,List.map_nil,List.flatMap_cons,List.flatMap_nil,List.length_cons,List.length_nil,List.length_map,List.cons_append,List.nil_append,List.append_nil,List.getElem?_cons_zero,List.getElem?_cons_succ,List.set_cons_zero,List.set_cons_succ,List.take_succ_cons,List.take_zero,List.drop_succ_cons,List.drop_zero,List.take_nil,List.drop_nil,List.all_cons,List.all_nil,List.not_mem_nil,↓reduceIte,Bool.and_true,Bool.false_and,Bool.or_false,Bool.false_eq_true,and_true,false_and,not_false_eq_true,decide_true,decide_false,and_self,Nat.le_refl,reduceCtorEq,Nat.add_zero,Nat.zero_add,Nat.reduceEqDiff,Nat.reduceAdd,Nat.reduceLT,Nat.reduceLeDiff,Int.reduceToNat,Int.toNat_natCast,Int.natCast_nonneg,qau,Int.reduceNeg,qaQ,Int.cast_ofNat_Int,qb6,qck,qcJ,qdp,frz,frzC,qjV,qfo,qfm,qbD,qar,qaG,qes,Int.le_refl,h1,h2,h3,h4,h5,h6,hcon,qaJ L hp,hp,hlt,h7,h13]
      | true =>
        have h10:qf4 false [.int .i64 ((i+1:Nat):Int),.int .i64 2]=some (.int .i64 (min ((i:Int)+1) 2)):=qqJ _ 2
        cases hm:a.tag == -1<;>cases h0:((i:Int)==0)<;>cases hbl:((a.binds.length:Int)==min ((i:Int)+1) 2)<;>unfold qdM <;>
         simp -implicitDefEqProofs only[qaq,qad,qae,qaf,qao,qax,qab,qaC,qah,aOp,opd,qai,qa1,qav,qag,qaV,qbh,qco,qbg,aEq,qaE,qaj,qaA,qaF,qbC,qbG,qaK,leaf,qaw,qaT,gcE,qaS,qac,qay,qam,qat,qaz,qaU,ren,renC,qa9,qbW,qca,qa8,qbc,qcy,qba,qbs,qaa,qbI,qal,qbK,qaN,qa0,qap,qak,qdj,qcI,beq_self_eq_true,Option.map_some,Option.map_none,List.map_cons,List.map_nil,List.flatMap_cons,List.flatMap_nil,List.length_cons,List.length_nil,List.length_map,List.cons_append,List.nil_append,List.append_nil,List.getElem?_cons_zero,List.getElem?_cons_succ,List.set_cons_zero,List.set_cons_succ,List.take_succ_cons,List.take_zero,List.drop_succ_cons,List.drop_zero,List.take_nil,List.drop_nil,List.all_cons,List.all_nil,List.not_mem_nil,↓reduceIte,Bool.and_true,Bool.and_false,Bool.false_and,Bool.or_true,Bool.or_false,Bool.not_true,Bool.not_false,Bool.false_eq_true,and_true,false_and,not_false_eq_true,decide_true,decide_false,and_self,Nat.le_refl,reduceCtorEq,Nat.add_zero,Nat.zero_add,Nat.reduceEqDiff,Nat.reduceAdd,Nat.reduceLT,Nat.reduceLeDiff,Int.reduceToNat,Int.toNat_natCast,Int.natCast_nonneg,qau,Int.reduceNeg,qaQ,Int.cast_ofNat_Int,qb6,qck,qcJ,qdp,frz,frzC,qjV,qfo,qfm,qbD,qar,qaG,qes,Int.le_refl,h1,h2,h3,h4,h5,h6,hcon,qaJ L hp,hp,hlt,h7,h13,hm,h0,h10,hbl,bne]
theorem qvl (h265:L.fns 265=some fn265) (h264:L.fns 264=some fn264) (h266:L.fns 266=some fn266) (h258:L.fns 258=some fn258) (op n:Int) (binds kids:List Int) (as:List CAlt) (hl:as.length<2 ^ 30) (h:Heap) :
  pcall L 258 [.agg [.int .i64 op,.int .i64 n,.list (binds.map qaP) none,.list (kids.map qaP) none,.list (as.map qaM) none]] h=some (.val (.bool (qic op as kids.length)),h):=by
 have hp:=hL.pure
 have hround:=qqg hL h265 h264 h266 op n binds kids as hl
 have hloop:=qd1 (pure:=L.pure) (call:=call L) (b:=1) (keep:=[1,7,8,9]) (fk:=[1,2]) (id:=0) (body:=qdM) as (fun i a=>if qib op as i a=true then some () else none)
  (fun i=>⟨kt [1,7,8,9] [.ptr (some (0,0)),.list (as.map qaM) none,.int .i64 as.length,.int .i64 i],[.box [.int .i64 op,.int .i64 n,.list (binds.map qaP) none,.list (kids.map qaP) none,.list (as.map qaM) none]]⟩)
  ⟨kt [1,2] [.ptr (some (0,0)),.junk],[.box [.int .i64 op,.int .i64 n,.list (binds.map qaP) none,.list (kids.map qaP) none,.list (as.map qaM) none]]⟩
  (fun _=>⟨kt [1,2] [.ptr (some (0,0)),.bool false],[.box [.int .i64 op,.int .i64 n,.list (binds.map qaP) none,.list (kids.map qaP) none,.list (as.map qaM) none]]⟩)
  (by
   intro i hi hq
   rw[hround i hi,if_neg]
   intro hb
   rw[if_pos hb] at hq
   cases hq)
  (by
   intro i hi r hq
   rw[hround i hi,if_pos]
   cases hb:qib op as i as[i] with
   | true=>rfl
   | false=>rw[hb] at hq;cases hq)
  (by
   have h0:=qbF as.length
   unfold qdM
   simp -implicitDefEqProofs only[qad,qae,qaf,qbl,qab,qah,aOp,opd,qai,qav,qag,qbh,qbg,qaj,gcE,qaS,qac,qay,qam,qat,qaz,qaU,ren,renC,qa9,qbW,qca,qa8,qaa,qal,qa0,qb1,List.map_cons,List.map_nil,List.flatMap_cons,List.flatMap_nil,List.length_cons,List.length_nil,List.append_nil,List.take_succ_cons,List.take_nil,List.not_mem_nil,↓reduceIte,Bool.false_eq_true,and_true,not_false_eq_true,decide_false,Nat.le_refl,Nat.zero_add,Nat.reduceEqDiff,Nat.reduceLT,Nat.reduceLeDiff,qau,Int.reduceNeg,qaQ,qar,qaG,h0])
 simp only[Int.natCast_zero] at hloop
 refine qbH hL h258 rfl ?_ h
 have hw:IntKind.i64.wrap (1+(as.length:Int))=1+(as.length:Int):=qd3 (by omega) (by omega)
 unfold qic
 cases hq:qbr (fun i a=>if qib op as i a=true then some () else none) as 0 with
 | some r =>
   simp only[hq,qcu] at hloop
   unfold fn258
   simp -implicitDefEqProofs only[qad,qae,qab,qah,aOp,opd,qai,qan,qav,qag,qco,qaF,qaK,qaw,qaR,qas,qaB,qaI,qaL,qaS,qac,qay,qam,qat,qaz,qaU,ren,renC,qa9,qbW,qca,qa8,qbf,qaa,qal,qa0,Option.getD_some,List.map_cons,List.map_nil,List.flatMap_cons,List.flatMap_nil,List.length_cons,List.length_nil,List.length_map,List.nil_append,List.append_nil,List.getElem?_cons_zero,List.getElem?_cons_succ,List.take_succ_cons,List.take_nil,List.not_mem_nil,↓reduceIte,Bool.false_and,Bool.false_eq_true,and_true,not_false_eq_true,decide_false,Nat.le_refl,Nat.zero_add,Nat.reduceEqDiff,Nat.reduceLT,Nat.reduceLeDiff,qaD,qar,qaG,Option.isNone_some,hloop]
 | none =>
   simp only[hq,qcu] at hloop
   cases hk:((kids.length:Int)==1+(as.length:Int)) with
   | false =>
     unfold fn258
     simp -implicitDefEqProofs only[qad,qae,qax,qab,qaC,qah,aOp,opd,qai,qan,qav,qag,qbh,qco,qbg,qaj,qaA,qaF,qaK,qaw,qaR,qas,qaB,qaI,qaL,qaS,qac,qay,qam,qat,qaz,qaU,ren,renC,qa9,qbW,qca,qa8,qbf,qaa,qal,qa0,qcI,Option.getD_some,List.map_cons,List.map_nil,List.flatMap_cons,List.flatMap_nil,List.length_cons,List.length_nil,List.length_map,List.nil_append,List.append_nil,List.getElem?_cons_zero,List.getElem?_cons_succ,List.take_succ_cons,List.take_nil,List.not_mem_nil,↓reduceIte,Bool.and_false,Bool.false_and,Bool.false_eq_true,and_true,not_false_eq_true,decide_false,Nat.le_refl,Nat.zero_add,Nat.reduceEqDiff,Nat.reduceLT,Nat.reduceLeDiff,qaD,qar,qaG,Option.isNone_none,hloop,hw,hk]
   | true =>
     cases h7:op==7 with
     | true =>
       unfold fn258
       simp -implicitDefEqProofs only[qad,qae,qax,qab,qaC,qah,aOp,opd,qai,qan,qav,qag,qbh,qco,qbg,qaj,qaA,qaF,qaK,qaw,qaR,qas,qaB,qaI,qaL,qaS,qac,qay,qam,qat,qaz,qaU,ren,renC,qa9,qbW,qca,qa8,qbf,qaa,qal,qa0,qdj,beq_self_eq_true,Option.getD_some,List.map_cons,List.map_nil,List.flatMap_cons,List.flatMap_nil,List.length_cons,List.length_nil,List.length_map,List.nil_append,List.append_nil,List.getElem?_cons_zero,List.getElem?_cons_succ,List.take_succ_cons,List.take_nil,List.not_mem_nil,↓reduceIte,Bool.and_true,Bool.true_or,Bool.false_eq_true,and_true,not_false_eq_true,decide_false,Nat.le_refl,Nat.add_zero,Nat.zero_add,Nat.reduceEqDiff,Nat.reduceLT,Nat.reduceLeDiff,qaD,qar,qaG,Option.isNone_none,hloop,hw,hk,h7]
     | false =>
       unfold fn258
       simp -implicitDefEqProofs only[qad,qae,qax,qab,qaC,qah,aOp,opd,qai,qan,qav,qag,qbh,qco,qbg,qaj,qaA,qaF,qaK,qaw,qaR,qas,qaB,qaI,qaL,qaS,qac,qay,qam,qat,qaz,qaU,ren,renC,qa9,qbW,qca,qa8,qbf,qaa,qal,qa0,beq_self_eq_true,Option.getD_some,List.map_cons,List.map_nil,List.flatMap_cons,List.flatMap_nil,List.length_cons,List.length_nil,List.length_map,List.nil_append,List.append_nil,List.getElem?_cons_zero,List.getElem?_cons_succ,List.take_succ_cons,List.take_nil,List.not_mem_nil,↓reduceIte,Bool.and_true,Bool.true_and,Bool.false_or,Bool.false_eq_true,and_true,not_false_eq_true,decide_false,Nat.le_refl,Nat.add_zero,Nat.zero_add,Nat.reduceEqDiff,Nat.reduceLT,Nat.reduceLeDiff,gt_iff_lt,qaD,qar,qaG,Option.isNone_none,hloop,hw,hk,h7]
end
end Go.Abs
