/-
  PARTS OF A PROOF, joined: an abstract machine for quiet code, its evaluation, and what the seat's functions answer on it. Conditions: none.
-/
import Derived.Test.YtbmognfolkhkpaaDoorCoreE
import Derived.Test.YtbmognfolkhkpaaDoorC
set_option linter.unusedVariables false
set_option linter.unusedSimpArgs false
set_option maxRecDepth 100000
set_option maxHeartbeats 4000000
namespace Go.Abs
def qxN (l:List Int) (n:Int):Int:=(qbC (fun i x=>if (n==x)=true then some (i:Int) else none) l 0).getD (-1)
def qoI (l:List Int) (n:Int):Bool:=l.any fun x=>x==n
theorem qpQ (n:Int):∀ (l:List Int) (k:Nat),(∀ r,qbC (fun i x=>if (n==x)=true then some (i:Int) else none) l k=some r→0≤r)∧(qbC (fun i x=>if (n==x)=true then some (i:Int) else none) l k).isSome=qoI l n
 | [],k=>⟨fun r h=>by (cases h),rfl⟩
 | x :: xs,k => by
   obtain⟨h1,h2⟩:=qpQ n xs (k+1)
   rw[qbC]
   unfold qoI at h2 ⊢
   rw[List.any_cons]
   by_cases hx:n=x
   ·subst hx
    simp only[beq_self_eq_true,if_true]
    exact⟨fun r h=>by injection h with h;omega,rfl⟩
   ·have e1:(n==x)=false:=by simpa using hx
    have e2:(x==n)=false:=by simpa using fun h=>hx h.symm
    simp only[e1,e2,Bool.false_eq_true,if_false,Bool.false_or]
    exact⟨h1,h2⟩
theorem qtM (l:List Int) (n:Int):decide (0≤qxN l n)=qoI l n:=by
 obtain⟨h1,h2⟩:=qpQ n l 0
 unfold qxN
 cases hq:qbC (fun i x=>if (n==x)=true then some (i:Int) else none) l 0 with
 | none =>
   rw[hq] at h2
   rw[← h2]
   rfl
 | some r =>
   rw[hq] at h2
   have:=h1 r hq
   rw[← h2]
   simpa using this
section
variable {L:Lib} (hL:Plain L)
include hL
theorem qeO (hf:L.fns 259=some fn259) (n a b:Int) (h:Heap):pcall L 259 [.int .i64 n,.int .i64 a,.int .i64 b] h=some (.val (.bool (decide (a≤n∧n≤b))),h):=by
 refine qbL hL hf rfl ?_ h
 unfold fn259
 by_cases h1:a≤n
 ·by_cases h2:n≤b
  ·simp -implicitDefEqProofs only[qad,qae,qar,qac,qap,qah,aOp,opd,qak,qal,qag,qba,qa8,qaj,qax,qaS,qao,qaw,qaI,qa7,beq_self_eq_true,Option.getD_some,List.getElem?_cons_zero,List.getElem?_cons_succ,↓reduceIte,Bool.false_eq_true,decide_true,and_self,reduceCtorEq,Nat.reduceEqDiff,ge_iff_le,qaD,h1,h2]
  ·simp -implicitDefEqProofs only[qad,qae,qar,qac,qap,qah,aOp,opd,qak,qal,qag,qba,qa8,qaj,qax,qaS,qao,qaw,qaI,qa7,beq_self_eq_true,Option.getD_some,List.getElem?_cons_zero,List.getElem?_cons_succ,↓reduceIte,Bool.false_eq_true,and_false,decide_true,decide_false,reduceCtorEq,Nat.reduceEqDiff,ge_iff_le,qaD,h1,h2]
 ·simp -implicitDefEqProofs only[qad,qae,qar,qac,qap,qah,aOp,opd,qak,qal,qag,qba,qa8,qaj,qax,qaS,qao,qaw,qaI,qa7,qbN,Option.getD_some,List.getElem?_cons_zero,List.getElem?_cons_succ,↓reduceIte,Bool.false_eq_true,false_and,decide_false,reduceCtorEq,Nat.reduceEqDiff,ge_iff_le,qaD,h1]
def qjH (op:Int):Bool:=op==2 || op==5 || op==12 || op==13
def qjJ (op:Int):Bool:=op==14 || op==15 || op==16
theorem qo1 (hf:L.fns 191=some fn191) (op:Int) (h:Heap):pcall L 191 [.int .i64 op] h=some (.val (.bool (qjH op)),h):=by
 refine qbL hL hf rfl ?_ h
 unfold fn191 qjH
 cases h1:op==2<;>cases h2:op==5<;>cases h3:op==12<;>cases h4:op==13<;>simp -implicitDefEqProofs only[qad,qae,qar,qac,qap,qah,aOp,opd,qak,qal,qag,qba,qa8,qaj,qax,qaS,qao,qaw,qaI,qa7,qde,beq_self_eq_true,Option.getD_some,List.getElem?_cons_zero,↓reduceIte,Bool.or_true,Bool.or_false,Bool.false_eq_true,reduceCtorEq,Nat.reduceEqDiff,qaD,h1,h2,h3,h4]
theorem qo4 (hf:L.fns 192=some fn192) (op:Int) (h:Heap):pcall L 192 [.int .i64 op] h=some (.val (.bool (qjJ op)),h):=by
 refine qbL hL hf rfl ?_ h
 unfold fn192 qjJ
 cases h1:op==14<;>cases h2:op==15<;>cases h3:op==16<;>simp -implicitDefEqProofs only[qad,qae,qar,qac,qap,qah,aOp,opd,qak,qal,qag,qba,qa8,qaj,qax,qaS,qao,qaw,qaI,qa7,qde,beq_self_eq_true,Option.getD_some,List.getElem?_cons_zero,↓reduceIte,Bool.or_true,Bool.or_false,Bool.false_eq_true,reduceCtorEq,Nat.reduceEqDiff,qaD,h1,h2,h3]
theorem qtN (hf:L.fns 181=some fn181) (l:List Int) (hl:l.length<2 ^ 30) (n:Int) (h:Heap):pcall L 181 [.list (l.map qa4) none,.int .i64 n] h=some (.val (.int .i64 (qxN l n)),h):=by
 have hp:=hL.pure
 have hloop:qb7 L.pure (call L) 0 [0,1,7,8] [4] 0 qh6 ⟨kt [0,1,7,8] [.list (l.map qa4) none,.int .i64 n,.int .i64 l.length,.int .i64 ((0:Nat):Int)],[]⟩ =
   some (qcw (fun r=>⟨kt [4] [.int .i64 r],[]⟩) ⟨kt [4] [.junk],[]⟩ (qbC (fun i x=>if (n==x)=true then some (i:Int) else none) l 0)):=by
  refine qdK l (fun i x=>if (n==x)=true then some (i:Int) else none) (fun i=>⟨kt [0,1,7,8] [.list (l.map qa4) none,.int .i64 n,.int .i64 l.length,.int .i64 i],[]⟩) _ _ ?_ ?_ ?_
  ·intro i hi hq
   obtain⟨h1,h2,h3⟩:=qbF qa4 l hl i hi
   have hq:(n==l[i])=false:=by
    cases hx:n==l[i] with
    | false=>rfl
    | true=>simp[hx] at hq
   generalize l[i]=a at *
   unfold qh6
   simp -implicitDefEqProofs only[qam,qad,qae,qab,qai,qac,qah,aOp,opd,qak,qaB,qag,qba,qa8,qan,qaj,qay,qaJ,qaX,qaf,qaF,qas,qaG,qa5,ren,renC,qbb,qbT,qb2,qaa,qaq,Option.getD_none,List.map_cons,List.map_nil,List.flatMap_cons,List.flatMap_nil,List.length_cons,List.length_nil,List.append_nil,List.getElem?_nil,List.getElem?_cons_zero,List.take_nil,↓reduceIte,Bool.false_eq_true,decide_true,decide_false,Nat.le_refl,reduceCtorEq,Nat.zero_add,Nat.reduceEqDiff,Int.toNat_natCast,Int.natCast_nonneg,qaz,qa0,qbM,qaA,h1,h2,h3,hq]
  ·intro i hi r hq
   obtain⟨h1,h2,h3⟩:=qbF qa4 l hl i hi
   have hx:(n==l[i])=true:=by
    cases hx:n==l[i] with
    | true=>rfl
    | false=>simp[hx] at hq
   rw[if_pos hx] at hq
   injection hq with hq
   subst hq
   generalize l[i]=a at *
   unfold qh6
   simp -implicitDefEqProofs only[qam,qad,qae,qab,qai,qar,qac,qah,aOp,opd,qak,qaB,qag,qba,qa8,qan,qaj,qay,qaJ,gcE,qaX,qaf,qaF,qas,qaG,qa5,ren,renC,qbb,qbT,qb2,qaq,Option.getD_none,List.map_cons,List.map_nil,List.flatMap_cons,List.flatMap_nil,List.length_cons,List.length_nil,List.append_nil,List.getElem?_nil,List.getElem?_cons_zero,List.take_nil,↓reduceIte,Bool.false_eq_true,decide_true,decide_false,Nat.le_refl,reduceCtorEq,Nat.zero_add,Nat.reduceEqDiff,Int.toNat_natCast,Int.natCast_nonneg,qaz,qa0,qbM,h1,h2,h3,hx]
  ·have h0:=qbG l.length
   unfold qh6
   simp -implicitDefEqProofs only[qad,qae,qab,qbj,qac,qah,aOp,opd,qak,qaB,qag,qba,qa8,qaj,gcE,qaX,qaf,qaF,qas,qaG,qa5,ren,renC,qbb,qbT,qb2,qbS,Option.getD_none,List.map_cons,List.map_nil,List.flatMap_cons,List.flatMap_nil,List.length_nil,List.append_nil,List.getElem?_nil,List.take_nil,↓reduceIte,Bool.false_eq_true,decide_false,Nat.le_refl,reduceCtorEq,Nat.reduceEqDiff,qaz,qa0,h0]
 simp only[Int.natCast_zero] at hloop
 unfold qxN
 refine qbL hL hf rfl ?_ h
 unfold fn181
 cases hq:qbC (fun i x=>if (n==x)=true then some (i:Int) else none) l 0<;>simp only[hq,qcw] at hloop<;>simp -implicitDefEqProofs only[qad,qae,qar,qac,qah,aOp,opd,qak,qal,qaB,qag,qcb,qaS,qao,qaw,qaI,qaU,qaX,qaf,qaF,qas,qaG,qa5,ren,renC,qbb,qbT,qb2,qbf,qaa,qaq,Option.getD_some,Option.getD_none,List.map_cons,List.map_nil,List.flatMap_cons,List.flatMap_nil,List.length_nil,List.length_map,List.append_nil,List.getElem?_nil,List.getElem?_cons_zero,List.getElem?_cons_succ,List.take_nil,↓reduceIte,Bool.false_eq_true,decide_false,Nat.le_refl,reduceCtorEq,Nat.reduceEqDiff,Int.reduceNeg,qaD,qaA,hloop]
theorem qkh (h181:L.fns 181=some fn181) (hf:L.fns 151=some fn151) (l:List Int) (hl:l.length<2 ^ 30) (n:Int) (h:Heap):pcall L 151 [.list (l.map qa4) none,.int .i64 n] h=some (.val (.bool (qoI l n)),h):=by
 have hp:=hL.pure
 have h1:=qtN hL h181 l hl n
 have h2:=qtM l n
 refine qbL hL hf rfl ?_ h
 unfold fn151
 simp -implicitDefEqProofs only[qad,qae,qar,qac,qah,aOp,opd,qak,qal,qag,qba,qa8,qaj,qaS,qao,qaw,qaI,qbx,qbw,qa7,qaa,qaq,qav,qat,Option.getD_some,List.map_cons,List.map_nil,List.getElem?_cons_zero,List.getElem?_cons_succ,↓reduceIte,Bool.and_true,Bool.false_eq_true,and_self,reduceCtorEq,Nat.reduceEqDiff,ge_iff_le,qa3,qaD,qaA,h1,h2,qaK L hp,hp]
end
end Go.Abs
set_option linter.unusedVariables false
set_option linter.unusedSimpArgs false
set_option maxRecDepth 100000
set_option maxHeartbeats 4000000
namespace Go.Abs
def qxM {α:Type} (p:α→Bool) (xs:List α):Int:=match qbC (fun i a=>if p a=true then some i else none) xs 0 with | some i=>(i:Nat) | none => -1
theorem qh0 {α:Type} (p:α→Bool):∀ (xs:List α) (k:Nat),(qbC (fun i a=>if p a=true then some i else none) xs k).isSome=xs.any p
 | [],k=>rfl
 | x :: xs,k => by
   rw[qbC,List.any_cons]
   cases hp:p x
   ·simp only[Bool.false_eq_true,if_false,Bool.false_or]
    exact qh0 p xs (k+1)
   ·rfl
theorem qtL {α:Type} (p:α→Bool) (xs:List α):decide (0≤qxM p xs)=xs.any p:=by
 rw[← qh0 p xs 0]
 unfold qxM
 cases qbC (fun i a=>if p a=true then some i else none) xs 0<;>simp
theorem qqM (x y:Int):qgh false [.int .i64 x,.int .i64 y]=some (.int .i64 (min x y)):=by
 simp only[qgh,if_true,Bool.false_eq_true,if_false]
 congr 2
 split<;>omega
theorem qhg (x y:Int):qgh true [.int .i64 x,.int .i64 y]=some (.int .i64 (max x y)):=by
 simp only[qgh,if_true]
 congr 2
 split<;>omega
theorem qxe {L:Lib} (hL:Plain L) (hf:L.fns 266=some fn266) (f:AVal) (hd:qbd f=true) (hk:∃ g a c,f=.func g a c) (p:CAlt→Bool) (xs:List CAlt) (hl:xs.length<2 ^ 30)
  (hg:∀ a∈xs,∀ h:Heap,(match f with | .func g u c=>qdJ L.pure (call L) g (u++.agg [.int .i64 a.tag,.list (a.binds.map qa4) none]::c) h | _=>none)=some (.val (.bool (p a)),h)) (h:Heap) :
  pcall L 266 [.list (xs.map qa6) none,f] h=some (.val (.int .i64 (qxM p xs)),h):=by
 have hp:=hL.pure
 obtain⟨g,u,c,rfl⟩:=hk
 dsimp only at hg
 refine qbL hL hf rfl ?_ h
 have hloop:=qdK (pure:=L.pure) (call:=call L) (b:=0) (keep:=[0,1,7,8]) (fk:=[4]) (id:=0) (body:=qib) xs (fun i a=>if p a=true then some i else none)
  (fun i=>⟨kt [0,1,7,8] [.list (xs.map qa6) none,.func g u c,.int .i64 xs.length,.int .i64 i],[]⟩) ⟨kt [4] [.junk],[]⟩ (fun i=>⟨kt [4] [.int .i64 i],[]⟩)
  (by
   intro i hi hq
   have h1:((i:Int)<xs.length):=by omega
   have h2:IntKind.i64.wrap ((i:Int)+1)=((i+1:Nat):Int):=by rw[qc5 (by omega) (by omega)];rfl
   have h3:(xs.map qa6)[i]? = some (qa6 xs[i]):=by simp[hi]
   have h5:=hg xs[i] (List.getElem_mem hi)
   have h6:p xs[i]=false:=by cases hx:p xs[i]<;>simp[hx] at hq ⊢
   generalize xs[i]=a at *
   unfold qib
   simp -implicitDefEqProofs only[qam,qad,qae,qab,qai,qac,qah,aOp,opd,qak,qaB,qag,qba,qa8,qan,qaj,qbE,qau,qaX,qaf,qaF,qas,qaG,qa5,ren,renC,qbb,qbT,qb2,qaa,qaq,Option.map_some,Option.getD_none,List.map_cons,List.map_nil,List.flatMap_cons,List.flatMap_nil,List.length_cons,List.length_nil,List.cons_append,List.nil_append,List.append_nil,List.append_assoc,List.getElem?_nil,List.take_succ_cons,List.drop_zero,List.take_nil,↓reduceIte,Bool.false_eq_true,decide_true,decide_false,Nat.le_refl,reduceCtorEq,Nat.zero_add,Nat.reduceEqDiff,Nat.reduceAdd,Int.toNat_natCast,Int.natCast_nonneg,qaz,qa0,qbK,qaP,hd,h1,h2,h3,h5,h6,reduceCtorEq])
  (by
   intro i hi r hq
   have h1:((i:Int)<xs.length):=by omega
   have h3:(xs.map qa6)[i]? = some (qa6 xs[i]):=by simp[hi]
   have h5:=hg xs[i] (List.getElem_mem hi)
   have h6:p xs[i]=true:=by cases hx:p xs[i]<;>simp[hx] at hq ⊢
   have h7:i=r:=by simpa[h6] using hq
   subst h7
   generalize xs[i]=a at *
   unfold qib
   simp -implicitDefEqProofs only[qam,qad,qae,qab,qai,qar,qac,qah,aOp,opd,qak,qaB,qag,qba,qa8,qan,qaj,qbE,qau,gcE,qaX,qaf,qaF,qas,qaG,qa5,ren,renC,qbb,qbT,qb2,qaq,Option.map_some,Option.getD_none,List.map_cons,List.map_nil,List.flatMap_cons,List.flatMap_nil,List.length_cons,List.length_nil,List.cons_append,List.nil_append,List.append_nil,List.append_assoc,List.getElem?_nil,List.take_succ_cons,List.drop_zero,List.take_nil,↓reduceIte,Bool.false_eq_true,decide_true,decide_false,Nat.le_refl,reduceCtorEq,Nat.zero_add,Nat.reduceEqDiff,Nat.reduceAdd,Int.toNat_natCast,Int.natCast_nonneg,qaz,qa0,qbK,hd,h1,h3,h5,h6,reduceCtorEq])
  (by
   have h0:¬ ((xs.length:Int)<xs.length):=by omega
   unfold qib
   simp -implicitDefEqProofs only[qad,qae,qab,qbj,qac,qah,aOp,opd,qak,qaB,qag,qba,qa8,qaj,gcE,qaX,qaf,qaF,qas,qaG,qa5,ren,renC,qbb,qbT,qb2,qbS,Option.getD_none,List.map_cons,List.map_nil,List.flatMap_cons,List.flatMap_nil,List.length_nil,List.append_nil,List.getElem?_nil,List.take_nil,↓reduceIte,Bool.false_eq_true,decide_false,Nat.le_refl,reduceCtorEq,Nat.reduceEqDiff,qaz,qa0,hd,h0,reduceCtorEq])
 simp only[Int.natCast_zero] at hloop
 unfold fn266 qxM
 cases hq:qbC (fun i a=>if p a=true then some i else none) xs 0<;>simp only[hq,qcw] at hloop<;>simp -implicitDefEqProofs only[qad,qae,qar,qac,qah,aOp,opd,qak,qal,qaB,qag,qcb,qaS,qao,qaw,qaI,qaU,qaX,qaf,qaF,qas,qaG,qa5,ren,renC,qbb,qbT,qb2,qbf,qaa,qaq,Option.getD_some,Option.getD_none,List.map_cons,List.map_nil,List.flatMap_cons,List.flatMap_nil,List.length_nil,List.length_map,List.append_nil,List.getElem?_nil,List.getElem?_cons_zero,List.getElem?_cons_succ,List.take_nil,↓reduceIte,Bool.false_eq_true,decide_false,Nat.le_refl,reduceCtorEq,Nat.reduceEqDiff,Int.reduceNeg,qaD,qaP,hd,hloop,hq]
theorem qw0 {L:Lib} (hL:Plain L) (hf:L.fns 264=some fn264) (hfi:L.fns 266=some fn266) (f:AVal) (hd:qbd f=true) (hk:∃ g a c,f=.func g a c) (p:CAlt→Bool) (xs:List CAlt) (hl:xs.length<2 ^ 30)
  (hg:∀ a∈xs,∀ h:Heap,(match f with | .func g u c=>qdJ L.pure (call L) g (u++.agg [.int .i64 a.tag,.list (a.binds.map qa4) none]::c) h | _=>none)=some (.val (.bool (p a)),h)) (h:Heap) :
  pcall L 264 [.list (xs.map qa6) none,f] h=some (.val (.bool (xs.any p)),h):=by
 have hp:=hL.pure
 have hi:=qxe hL hfi f hd hk p xs hl hg
 obtain⟨g,u,c,rfl⟩:=hk
 refine qbL hL hf rfl ?_ h
 have ha:=qtL p xs
 unfold fn264
 cases hq:xs.any p<;>rw[hq] at ha<;>simp -implicitDefEqProofs only[qad,qae,qar,qac,qah,aOp,opd,qak,qal,qag,qba,qa8,qaj,qaS,qao,qaw,qaI,qbx,qa7,qcT,qaa,qav,qat,Option.getD_some,List.map_cons,List.map_nil,List.nil_append,List.append_nil,List.getElem?_cons_zero,List.getElem?_cons_succ,↓reduceIte,Bool.and_true,Bool.false_eq_true,reduceCtorEq,Nat.reduceEqDiff,ge_iff_le,qaD,qaP,hd,hi,qaK L hp,hp,ha]
def qlu (op:Int) (as:List CAlt) (i:Nat) (a:CAlt):Bool :=
 (as.take i).any (fun b=>b.tag==a.tag) || decide (a.tag < -1) || (op==7 && a.tag == -1 && (decide ((i:Int)<as.length-1) || decide ((0:Int)<a.binds.length))) ||
 (op==13 && (((i:Int)==0) != (a.tag == -1))) || (op==13 && ((a.binds.length:Int) != min ((i:Int)+1) 2))
def qj9 (op:Int) (as:List CAlt) (kids:Nat):Bool :=
 (qbC (fun i a=>if qlu op as i a=true then some () else none) as 0).isNone && ((kids:Int)==1+(as.length:Int)) && (op==7 || decide ((0:Int)<as.length))
theorem qs8 (c:CAlt) {L:Lib} (hL:Plain L) (hf:L.fns 265=some fn265) (a:CAlt) (h:Heap) :
  pcall L 265 [.agg [.int .i64 a.tag,.list (a.binds.map qa4) none],.vptr [.int .i64 c.tag,.list (c.binds.map qa4) none] 0] h=some (.val (.bool (a.tag==c.tag)),h):=by
 refine qbL hL hf rfl ?_ h
 unfold fn265
 simp -implicitDefEqProofs only[qad,qae,qar,qac,qah,aOp,opd,qak,qal,qag,qba,qa8,qaj,qay,qaE,qau,qaS,qao,qaw,qaI,qa7,Option.getD_some,List.length_nil,List.nil_append,List.getElem?_cons_zero,List.getElem?_cons_succ,↓reduceIte,Bool.false_eq_true,Nat.add_zero,Nat.reduceEqDiff,qaD]
section
variable {L:Lib} (hL:Plain L)
include hL
theorem qqq (h265:L.fns 265=some fn265) (h264:L.fns 264=some fn264) (h266:L.fns 266=some fn266) (op n:Int) (binds kids:List Int) (as:List CAlt) (hl:as.length<2 ^ 30) (i:Nat) (hi:i<as.length) :
  qb8 L.pure (call L) 1 [1,7,8,9] [1,2] qdx ⟨kt [1,7,8,9] [.ptr (some (0,0)),.list (as.map qa6) none,.int .i64 as.length,.int .i64 i],[.box [.int .i64 op,.int .i64 n,.list (binds.map qa4) none,.list (kids.map qa4) none,.list (as.map qa6) none]]⟩ =
  some (if qlu op as i as[i]=true then (.ret,⟨kt [1,2] [.ptr (some (0,0)),.bool false],[.box [.int .i64 op,.int .i64 n,.list (binds.map qa4) none,.list (kids.map qa4) none,.list (as.map qa6) none]]⟩) else
   (.normal,⟨kt [1,7,8,9] [.ptr (some (0,0)),.list (as.map qa6) none,.int .i64 as.length,.int .i64 ((i+1:Nat):Int)],[.box [.int .i64 op,.int .i64 n,.list (binds.map qa4) none,.list (kids.map qa4) none,.list (as.map qa6) none]]⟩)):=by
 have hp:=hL.pure
 obtain⟨h1,h2,h3⟩:=qbF qa6 as hl i hi
 have h4:(i:Int)≤as.length:=by omega
 have h5:(as.map qa6).take i=(as.take i).map qa6:=by rw[List.map_take]
 have hcon:=qw0 hL h264 h266 (.func 265 [] [.vptr [.int .i64 as[i].tag,.list (as[i].binds.map qa4) none] 0]) (by simp only[qbd,qaZ,qaA,Bool.and_self]) ⟨_,_,_,rfl⟩
  (fun b=>b.tag==as[i].tag) (as.take i) (by simp;omega)
  (by
   intro a ha h
   have:=qs8 as[i] hL h265 a h
   dsimp only
   simp -implicitDefEqProofs only[qcf,qbv,qbk,qbz,qaa,qaq,qcc,qaQ,qav,qat,List.map_cons,List.map_nil,List.nil_append,↓reduceIte,Bool.and_true,qaA,this,qaK L hp,hp])
 have h6:IntKind.i64.wrap ((as.length:Int)-1)=(as.length:Int)-1:=qc5 (by omega) (by omega)
 unfold qlu
 generalize ha:as[i]=a at *
 generalize (as.take i).any (fun b=>b.tag==a.tag)=again at *
 cases again with
 | true =>
   unfold qdx
   simp -implicitDefEqProofs only[qam,qad,qae,qab,qai,qar,qac,qap,qah,aOp,opd,qak,qaW,qaB,qag,qaV,qba,qa8,qan,qaj,qax,qay,qbr,qbE,qaE,leaf,qau,qaR,gcE,qaX,qaf,qaF,qas,qaH,qaG,qa5,ren,renC,qbm,qbT,qb2,qbl,qbx,qcT,qbk,qbz,qaa,qbR,qaq,qb5,qaQ,qbe,qav,qat,qde,Option.map_some,Option.map_none,List.map_cons,List.map_nil,List.flatMap_cons,List.flatMap_nil,List.length_cons,List.length_nil,List.length_map,List.cons_append,List.nil_append,List.append_nil,List.getElem?_cons_zero,List.getElem?_cons_succ,List.set_cons_zero,List.set_cons_succ,List.take_succ_cons,List.take_zero,List.drop_succ_cons,List.drop_zero,List.take_nil,List.drop_nil,List.all_cons,List.all_nil,List.not_mem_nil,↓reduceIte,Bool.and_true,Bool.true_or,Bool.false_eq_true,and_true,false_and,not_false_eq_true,decide_true,decide_false,and_self,Nat.le_refl,reduceCtorEq,Nat.zero_add,Nat.reduceEqDiff,Nat.reduceAdd,Nat.reduceLT,Nat.reduceLeDiff,Int.reduceToNat,Int.toNat_natCast,Int.natCast_nonneg,qaz,Int.reduceNeg,qa0,Int.cast_ofNat_Int,qch,qco,qcM,qds,frz,frzC,qla,qeA,qeI,qbK,qaA,qaP,qei,Int.le_refl,h1,h2,h3,h4,h5,hcon,qaK L hp,hp]
 | false =>
   by_cases hlt:a.tag < -1
   ·unfold qdx
    simp -implicitDefEqProofs only[qam,qad,qae,qab,qai,qar,qac,qap,qah,aOp,opd,qak,qaW,qaB,qag,qaV,qba,qa8,qan,qaj,qax,qay,qbr,qbE,qaE,leaf,qau,qaR,gcE,qaX,qaf,qaF,qas,qaH,qaG,qa5,ren,renC,qbm,qbT,qb2,qbl,qbx,qcT,qbk,qbz,qaa,qbR,qaq,qb5,qaQ,qbe,qav,qat,beq_self_eq_true,Option.map_some,Option.map_none,List.map_cons,List.map_nil,List.flatMap_cons,List.flatMap_nil,List.length_cons,List.length_nil,List.length_map,List.cons_append,List.nil_append,List.append_nil,List.getElem?_cons_zero,List.getElem?_cons_succ,List.set_cons_zero,List.set_cons_succ,List.take_succ_cons,List.take_zero,List.drop_succ_cons,List.drop_zero,List.take_nil,List.drop_nil,List.all_cons,List.all_nil,List.not_mem_nil,↓reduceIte,Bool.and_true,Bool.or_true,Bool.true_or,Bool.false_eq_true,and_true,false_and,not_false_eq_true,decide_true,decide_false,and_self,Nat.le_refl,reduceCtorEq,Nat.add_zero,Nat.zero_add,Nat.reduceEqDiff,Nat.reduceAdd,Nat.reduceLT,Nat.reduceLeDiff,Int.reduceToNat,Int.toNat_natCast,Int.natCast_nonneg,qaz,Int.reduceNeg,qa0,Int.cast_ofNat_Int,qch,qco,qcM,qds,frz,frzC,qla,qeA,qeI,qbK,qaA,qaP,qei,Int.le_refl,h1,h2,h3,h4,h5,hcon,qaK L hp,hp,hlt]
   ·cases h7:op==7 with
    | true =>
      have h13:(op==13)=false:=by
       have:op=7:=by simpa using h7
       subst this;rfl
      cases hm:a.tag == -1 with
      | true =>
        by_cases hq:(i:Int)<as.length-1
        ·unfold qdx
         simp -implicitDefEqProofs only[qam,qad,qae,qab,qai,qar,qac,qap,qah,aOp,opd,qak,qaW,qaB,qag,qaV,qba,qcb,qa8,qan,qaj,qax,qay,qbr,qbE,qaE,leaf,qau,qaR,gcE,qaX,qaf,qaF,qas,qaH,qaG,qa5,ren,renC,qbm,qbT,qb2,qbl,qbx,qcT,qbk,qbz,qaa,qbR,qaq,qb5,qaQ,qbe,qav,qat,qde,beq_self_eq_true,Option.map_some,Option.map_none,List.map_cons,List.map_nil,List.flatMap_cons,List.flatMap_nil,List.length_cons,List.length_nil,List.length_map,List.cons_append,List.nil_append,List.append_nil,List.getElem?_cons_zero,List.getElem?_cons_succ,List.set_cons_zero,List.set_cons_succ,List.take_succ_cons,List.take_zero,List.drop_succ_cons,List.drop_zero,List.take_nil,List.drop_nil,List.all_cons,List.all_nil,List.not_mem_nil,↓reduceIte,Bool.and_true,Bool.false_and,Bool.or_true,Bool.true_or,Bool.or_false,Bool.false_eq_true,and_true,false_and,not_false_eq_true,decide_true,decide_false,and_self,Nat.le_refl,reduceCtorEq,Nat.add_zero,Nat.zero_add,Nat.reduceEqDiff,Nat.reduceAdd,Nat.reduceLT,Nat.reduceLeDiff,Int.reduceToNat,Int.toNat_natCast,Int.natCast_nonneg,qaz,Int.reduceNeg,qa0,Int.cast_ofNat_Int,qch,qco,qcM,qds,frz,frzC,qla,qeA,qeI,qbK,qaA,qaP,qei,Int.le_refl,h1,h2,h3,h4,h5,h6,hcon,qaK L hp,hp,hlt,h7,h13,hm,hq]
        ·by_cases hb:(0:Int)<a.binds.length
         ·unfold qdx
          simp -implicitDefEqProofs only[qam,qad,qae,qab,qai,qar,qac,qap,qah,aOp,opd,qak,qaW,qaB,qag,qaV,qba,qcb,qa8,qan,qaj,qax,qay,qbr,qbE,qaE,leaf,qau,qaR,gcE,qaX,qaf,qaF,qas,qaH,qaG,qa5,ren,renC,qbm,qbT,qb2,qbl,qbx,qcT,qbk,qbz,qaa,qbR,qaq,qb5,qaQ,qbe,qav,qat,beq_self_eq_true,Option.map_some,Option.map_none,List.map_cons,List.map_nil,List.flatMap_cons,List.flatMap_nil,List.length_cons,List.length_nil,List.length_map,List.cons_append,List.nil_append,List.append_nil,List.getElem?_cons_zero,List.getElem?_cons_succ,List.set_cons_zero,List.set_cons_succ,List.take_succ_cons,List.take_zero,List.drop_succ_cons,List.drop_zero,List.take_nil,List.drop_nil,List.all_cons,List.all_nil,List.not_mem_nil,↓reduceIte,Bool.and_true,Bool.false_and,Bool.or_true,Bool.or_false,Bool.false_eq_true,and_true,false_and,not_false_eq_true,decide_true,decide_false,and_self,Nat.le_refl,reduceCtorEq,Nat.add_zero,Nat.zero_add,Nat.reduceEqDiff,Nat.reduceAdd,Nat.reduceLT,Nat.reduceLeDiff,Int.reduceToNat,Int.toNat_natCast,Int.natCast_nonneg,qaz,Int.reduceNeg,qa0,Int.cast_ofNat_Int,gt_iff_lt,qch,qco,qcM,qds,frz,frzC,qla,qeA,qeI,qbK,qaA,qaP,qei,Int.le_refl,h1,h2,h3,h4,h5,h6,hcon,qaK L hp,hp,hlt,h7,h13,hm,hq,hb]
         ·unfold qdx
          simp -implicitDefEqProofs only[qam,qad,qae,qab,qai,qac,qap,qah,aOp,opd,qak,qaW,qaB,qag,qaV,qba,qcb,qa8,qan,qaj,qax,qay,qbr,qbE,qaE,leaf,qau,qaR,qaX,qaf,qaF,qas,qaH,qaG,qa5,ren,renC,qbm,qbT,qb2,qbl,qbx,qcT,qbk,qbz,qaa,qaq,qb5,qaQ,qbe,qav,qat,qbN,beq_self_eq_true,Option.map_some,Option.map_none,List.map_cons,List.map_nil,List.flatMap_cons,List.flatMap_nil,List.length_cons,List.length_nil,List.length_map,List.cons_append,List.nil_append,List.append_nil,List.getElem?_cons_zero,List.getElem?_cons_succ,List.set_cons_zero,List.set_cons_succ,List.take_succ_cons,List.take_zero,List.drop_succ_cons,List.drop_zero,List.take_nil,List.drop_nil,List.all_cons,List.all_nil,List.not_mem_nil,↓reduceIte,Bool.and_true,Bool.and_false,Bool.false_and,Bool.or_false,Bool.false_eq_true,and_true,false_and,not_false_eq_true,decide_true,decide_false,and_self,Nat.le_refl,reduceCtorEq,Nat.add_zero,Nat.zero_add,Nat.reduceEqDiff,Nat.reduceAdd,Nat.reduceLT,Nat.reduceLeDiff,Int.reduceToNat,Int.toNat_natCast,Int.natCast_nonneg,qaz,Int.reduceNeg,qa0,Int.cast_ofNat_Int,gt_iff_lt,qch,qco,qcM,qds,frz,frzC,qla,qeA,qeI,qbK,qaA,qaP,qei,Int.le_refl,h1,h2,h3,h4,h5,h6,hcon,qaK L hp,hp,hlt,h7,h13,hm,hq,hb]
      | false =>
        unfold qdx
        simp -implicitDefEqProofs only[qam,qad,qae,qab,qai,qac,qap,qah,aOp,opd,qak,qaW,qaB,qag,qaV,qba,qa8,qan,qaj,qax,qay,qbr,qbE,qaE,leaf,qau,qaR,qaX,qaf,qaF,qas,qaH,qaG,qa5,ren,renC,qbm,qbT,qb2,qbl,qbx,qcT,qbk,qbz,qaa,qaq,qb5,qaQ,qbe,qav,qat,qbN,beq_self_eq_true,Option.map_some,Option.map_none,List.map_cons,List.map_nil,List.flatMap_cons,List.flatMap_nil,List.length_cons,List.length_nil,List.length_map,List.cons_append,List.nil_append,List.append_nil,List.getElem?_cons_zero,List.getElem?_cons_succ,List.set_cons_zero,List.set_cons_succ,List.take_succ_cons,List.take_zero,List.drop_succ_cons,List.drop_zero,List.take_nil,List.drop_nil,List.all_cons,List.all_nil,List.not_mem_nil,↓reduceIte,Bool.and_true,Bool.and_false,Bool.false_and,Bool.or_false,Bool.false_eq_true,and_true,false_and,not_false_eq_true,decide_true,decide_false,and_self,Nat.le_refl,reduceCtorEq,Nat.add_zero,Nat.zero_add,Nat.reduceEqDiff,Nat.reduceAdd,Nat.reduceLT,Nat.reduceLeDiff,Int.reduceToNat,Int.toNat_natCast,Int.natCast_nonneg,qaz,Int.reduceNeg,qa0,Int.cast_ofNat_Int,qch,qco,qcM,qds,frz,frzC,qla,qeA,qeI,qbK,qaA,qaP,qei,Int.le_refl,h1,h2,h3,h4,h5,h6,hcon,qaK L hp,hp,hlt,h7,h13,hm]
    | false =>
      cases h13:op==13 with
      | false =>
        unfold qdx
        simp -implicitDefEqProofs only[qam,qad,qae,qab,qai,qac,qap,qah,aOp,opd,qak,qaW,qaB,qag,qaV,qba,qa8,qan,qaj,qax,qay,qbr,qbE,qaE,leaf,qau,qaR,qaX,qaf,qaF,qas,qaH,qaG,qa5,ren,renC,qbm,qbT,qb2,qbl,qbx,qcT,qbk,qbz,qaa,qaq,qb5,qaQ,qbe,qav,qat,qbN,beq_self_eq_true,Option.map_some,Option.map_none,List.map_cons,List.map_nil,List.flatMap_cons,List.flatMap_nil,List.length_cons,List.length_nil,List.length_map,List.cons_append,List.nil_append,List.append_nil,List.getElem?_cons_zero,List.getElem?_cons_succ,List.set_cons_zero,List.set_cons_succ,List.take_succ_cons,List.take_zero,List.drop_succ_cons,List.drop_zero,List.take_nil,List.drop_nil,List.all_cons,List.all_nil,List.not_mem_nil,↓reduceIte,Bool.and_true,Bool.false_and,Bool.or_false,Bool.false_eq_true,and_true,false_and,not_false_eq_true,decide_true,decide_false,and_self,Nat.le_refl,reduceCtorEq,Nat.add_zero,Nat.zero_add,Nat.reduceEqDiff,Nat.reduceAdd,Nat.reduceLT,Nat.reduceLeDiff,Int.reduceToNat,Int.toNat_natCast,Int.natCast_nonneg,qaz,Int.reduceNeg,qa0,Int.cast_ofNat_Int,qch,qco,qcM,qds,frz,frzC,qla,qeA,qeI,qbK,qaA,qaP,qei,Int.le_refl,h1,h2,h3,h4,h5,h6,hcon,qaK L hp,hp,hlt,h7,h13]
      | true =>
        have h10:qgh false [.int .i64 ((i+1:Nat):Int),.int .i64 2]=some (.int .i64 (min ((i:Int)+1) 2)):=qqM _ 2
        cases hm:a.tag == -1<;>cases h0:((i:Int)==0)<;>cases hbl:((a.binds.length:Int)==min ((i:Int)+1) 2)<;>unfold qdx <;>
         simp -implicitDefEqProofs only[qam,qad,qae,qab,qai,qar,qac,qap,qah,aOp,opd,qak,qaW,qaB,qag,qaV,qba,qcb,qa8,aEq,qan,qaj,qax,qay,qbr,qbE,qaE,leaf,qau,qaR,gcE,qaX,qaf,qaF,qas,qaH,qaG,qa5,ren,renC,qbm,qbT,qb2,qbl,qbx,qcT,qbk,qbz,qaa,qbR,qaq,qb5,qaQ,qbe,qav,qat,qde,qbN,beq_self_eq_true,Option.map_some,Option.map_none,List.map_cons,List.map_nil,List.flatMap_cons,List.flatMap_nil,List.length_cons,List.length_nil,List.length_map,List.cons_append,List.nil_append,List.append_nil,List.getElem?_cons_zero,List.getElem?_cons_succ,List.set_cons_zero,List.set_cons_succ,List.take_succ_cons,List.take_zero,List.drop_succ_cons,List.drop_zero,List.take_nil,List.drop_nil,List.all_cons,List.all_nil,List.not_mem_nil,↓reduceIte,Bool.and_true,Bool.and_false,Bool.false_and,Bool.or_true,Bool.or_false,Bool.not_true,Bool.not_false,Bool.false_eq_true,and_true,false_and,not_false_eq_true,decide_true,decide_false,and_self,Nat.le_refl,reduceCtorEq,Nat.add_zero,Nat.zero_add,Nat.reduceEqDiff,Nat.reduceAdd,Nat.reduceLT,Nat.reduceLeDiff,Int.reduceToNat,Int.toNat_natCast,Int.natCast_nonneg,qaz,Int.reduceNeg,qa0,Int.cast_ofNat_Int,qch,qco,qcM,qds,frz,frzC,qla,qeA,qeI,qbK,qaA,qaP,qei,Int.le_refl,h1,h2,h3,h4,h5,h6,hcon,qaK L hp,hp,hlt,h7,h13,hm,h0,h10,hbl,bne]
theorem quK (h265:L.fns 265=some fn265) (h264:L.fns 264=some fn264) (h266:L.fns 266=some fn266) (h258:L.fns 258=some fn258) (op n:Int) (binds kids:List Int) (as:List CAlt) (hl:as.length<2 ^ 30) (h:Heap) :
  pcall L 258 [.agg [.int .i64 op,.int .i64 n,.list (binds.map qa4) none,.list (kids.map qa4) none,.list (as.map qa6) none]] h=some (.val (.bool (qj9 op as kids.length)),h):=by
 have hp:=hL.pure
 have hround:=qqq hL h265 h264 h266 op n binds kids as hl
 have hloop:=qdK (pure:=L.pure) (call:=call L) (b:=1) (keep:=[1,7,8,9]) (fk:=[1,2]) (id:=0) (body:=qdx) as (fun i a=>if qlu op as i a=true then some () else none)
  (fun i=>⟨kt [1,7,8,9] [.ptr (some (0,0)),.list (as.map qa6) none,.int .i64 as.length,.int .i64 i],[.box [.int .i64 op,.int .i64 n,.list (binds.map qa4) none,.list (kids.map qa4) none,.list (as.map qa6) none]]⟩)
  ⟨kt [1,2] [.ptr (some (0,0)),.junk],[.box [.int .i64 op,.int .i64 n,.list (binds.map qa4) none,.list (kids.map qa4) none,.list (as.map qa6) none]]⟩
  (fun _=>⟨kt [1,2] [.ptr (some (0,0)),.bool false],[.box [.int .i64 op,.int .i64 n,.list (binds.map qa4) none,.list (kids.map qa4) none,.list (as.map qa6) none]]⟩)
  (by
   intro i hi hq
   rw[hround i hi,if_neg]
   intro hb
   rw[if_pos hb] at hq
   cases hq)
  (by
   intro i hi r hq
   rw[hround i hi,if_pos]
   cases hb:qlu op as i as[i] with
   | true=>rfl
   | false=>rw[hb] at hq;cases hq)
  (by
   have h0:=qbG as.length
   unfold qdx
   simp -implicitDefEqProofs only[qad,qae,qab,qbj,qac,qah,aOp,opd,qak,qaB,qag,qba,qa8,qaj,gcE,qaX,qaf,qaF,qas,qaH,qaG,qa5,ren,renC,qbm,qbT,qb2,qbl,qaa,qaq,qbe,qbS,List.map_cons,List.map_nil,List.flatMap_cons,List.flatMap_nil,List.length_cons,List.length_nil,List.append_nil,List.take_succ_cons,List.take_nil,List.not_mem_nil,↓reduceIte,Bool.false_eq_true,and_true,not_false_eq_true,decide_false,Nat.le_refl,Nat.zero_add,Nat.reduceEqDiff,Nat.reduceLT,Nat.reduceLeDiff,qaz,Int.reduceNeg,qa0,qaA,qaP,h0])
 simp only[Int.natCast_zero] at hloop
 refine qbL hL h258 rfl ?_ h
 have hw:IntKind.i64.wrap (1+(as.length:Int))=1+(as.length:Int):=qc5 (by omega) (by omega)
 unfold qj9
 cases hq:qbC (fun i a=>if qlu op as i a=true then some () else none) as 0 with
 | some r =>
   simp only[hq,qcw] at hloop
   unfold fn258
   simp -implicitDefEqProofs only[qad,qae,qac,qah,aOp,opd,qak,qal,qaB,qag,qcb,qay,qaE,qau,qaS,qao,qaw,qaI,qaU,qaX,qaf,qaF,qas,qaH,qaG,qa5,ren,renC,qbm,qbT,qb2,qbl,qa7,qaa,qaq,qbe,Option.getD_some,List.map_cons,List.map_nil,List.flatMap_cons,List.flatMap_nil,List.length_cons,List.length_nil,List.length_map,List.nil_append,List.append_nil,List.getElem?_cons_zero,List.getElem?_cons_succ,List.take_succ_cons,List.take_nil,List.not_mem_nil,↓reduceIte,Bool.false_and,Bool.false_eq_true,and_true,not_false_eq_true,decide_false,Nat.le_refl,Nat.zero_add,Nat.reduceEqDiff,Nat.reduceLT,Nat.reduceLeDiff,qaD,qaA,qaP,Option.isNone_some,hloop]
 | none =>
   simp only[hq,qcw] at hloop
   cases hk:((kids.length:Int)==1+(as.length:Int)) with
   | false =>
     unfold fn258
     simp -implicitDefEqProofs only[qad,qae,qar,qac,qap,qah,aOp,opd,qak,qal,qaB,qag,qba,qcb,qa8,qaj,qax,qay,qaE,qau,qaS,qao,qaw,qaI,qaU,qaX,qaf,qaF,qas,qaH,qaG,qa5,ren,renC,qbm,qbT,qb2,qbl,qa7,qaa,qaq,qbe,qbN,Option.getD_some,List.map_cons,List.map_nil,List.flatMap_cons,List.flatMap_nil,List.length_cons,List.length_nil,List.length_map,List.nil_append,List.append_nil,List.getElem?_cons_zero,List.getElem?_cons_succ,List.take_succ_cons,List.take_nil,List.not_mem_nil,↓reduceIte,Bool.and_false,Bool.false_and,Bool.false_eq_true,and_true,not_false_eq_true,decide_false,Nat.le_refl,Nat.zero_add,Nat.reduceEqDiff,Nat.reduceLT,Nat.reduceLeDiff,qaD,qaA,qaP,Option.isNone_none,hloop,hw,hk]
   | true =>
     cases h7:op==7 with
     | true =>
       unfold fn258
       simp -implicitDefEqProofs only[qad,qae,qar,qac,qap,qah,aOp,opd,qak,qal,qaB,qag,qba,qcb,qa8,qaj,qax,qay,qaE,qau,qaS,qao,qaw,qaI,qaU,qaX,qaf,qaF,qas,qaH,qaG,qa5,ren,renC,qbm,qbT,qb2,qbl,qa7,qaa,qaq,qbe,qde,beq_self_eq_true,Option.getD_some,List.map_cons,List.map_nil,List.flatMap_cons,List.flatMap_nil,List.length_cons,List.length_nil,List.length_map,List.nil_append,List.append_nil,List.getElem?_cons_zero,List.getElem?_cons_succ,List.take_succ_cons,List.take_nil,List.not_mem_nil,↓reduceIte,Bool.and_true,Bool.true_or,Bool.false_eq_true,and_true,not_false_eq_true,decide_false,Nat.le_refl,Nat.add_zero,Nat.zero_add,Nat.reduceEqDiff,Nat.reduceLT,Nat.reduceLeDiff,qaD,qaA,qaP,Option.isNone_none,hloop,hw,hk,h7]
     | false =>
       unfold fn258
       simp -implicitDefEqProofs only[qad,qae,qar,qac,qap,qah,aOp,opd,qak,qal,qaB,qag,qba,qcb,qa8,qaj,qax,qay,qaE,qau,qaS,qao,qaw,qaI,qaU,qaX,qaf,qaF,qas,qaH,qaG,qa5,ren,renC,qbm,qbT,qb2,qbl,qa7,qaa,qaq,qbe,beq_self_eq_true,Option.getD_some,List.map_cons,List.map_nil,List.flatMap_cons,List.flatMap_nil,List.length_cons,List.length_nil,List.length_map,List.nil_append,List.append_nil,List.getElem?_cons_zero,List.getElem?_cons_succ,List.take_succ_cons,List.take_nil,List.not_mem_nil,↓reduceIte,Bool.and_true,Bool.true_and,Bool.false_or,Bool.false_eq_true,and_true,not_false_eq_true,decide_false,Nat.le_refl,Nat.add_zero,Nat.zero_add,Nat.reduceEqDiff,Nat.reduceLT,Nat.reduceLeDiff,gt_iff_lt,qaD,qaA,qaP,Option.isNone_none,hloop,hw,hk,h7]
end
end Go.Abs
