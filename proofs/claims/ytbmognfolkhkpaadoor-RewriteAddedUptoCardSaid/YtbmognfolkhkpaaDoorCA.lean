/-
  PARTS OF A PROOF, joined: an abstract machine for quiet code, its evaluation, and what the seat's functions answer on it. Conditions: none.
-/
import Derived.Test.YtbmognfolkhkpaaDoorCoreE
import Derived.Test.YtbmognfolkhkpaaDoorC
set_option linter.unusedVariables false
set_option linter.unusedSimpArgs false
set_option maxRecDepth 100000
set_option maxHeartbeats 4000000
namespace Go.Abs
def qyD (l:List Int) (n:Int):Int:=(qbw (fun i x=>if (n==x)=true then some (i:Int) else none) l 0).getD (-1)
def qrC (l:List Int) (n:Int):Bool:=l.any fun x=>x==n
theorem qqi (n:Int):∀ (l:List Int) (k:Nat),(∀ r,qbw (fun i x=>if (n==x)=true then some (i:Int) else none) l k=some r→0≤r)∧(qbw (fun i x=>if (n==x)=true then some (i:Int) else none) l k).isSome=qrC l n
 | [],k=>⟨fun r h=>by (cases h),rfl⟩
 | x :: xs,k => by
   obtain⟨h1,h2⟩:=qqi n xs (k+1)
   rw[qbw]
   unfold qrC at h2 ⊢
   rw[List.any_cons]
   by_cases hx:n=x
   ·subst hx
    simp only[beq_self_eq_true,if_true]
    exact⟨fun r h=>by injection h with h;omega,rfl⟩
   ·have e1:(n==x)=false:=by simpa using hx
    have e2:(x==n)=false:=by simpa using fun h=>hx h.symm
    simp only[e1,e2,Bool.false_eq_true,if_false,Bool.false_or]
    exact⟨h1,h2⟩
theorem quy (l:List Int) (n:Int):decide (0≤qyD l n)=qrC l n:=by
 obtain⟨h1,h2⟩:=qqi n l 0
 unfold qyD
 cases hq:qbw (fun i x=>if (n==x)=true then some (i:Int) else none) l 0 with
 | none =>
   rw[hq] at h2
   rw[← h2]
   rfl
 | some r =>
   rw[hq] at h2
   have:=h1 r hq
   rw[← h2]
   simpa using this
section
variable {L:Lib} (hL:Plain L)
include hL
theorem qeX (hf:L.fns 259=some fn259) (n a b:Int) (h:Heap):pcall L 259 [.int .i64 n,.int .i64 a,.int .i64 b] h=some (.val (.bool (decide (a≤n∧n≤b))),h):=by
 refine qbK hL hf rfl ?_ h
 unfold fn259
 by_cases h1:a≤n
 ·by_cases h2:n≤b
  ·simp -implicitDefEqProofs only[qad,qae,qap,qac,qau,qah,aOp,opd,qai,qak,qag,qbb,qba,qaj,qaw,qaT,qan,qax,qaH,qbf,beq_self_eq_true,Option.getD_some,List.getElem?_cons_zero,List.getElem?_cons_succ,↓reduceIte,Bool.false_eq_true,decide_true,and_self,reduceCtorEq,Nat.reduceEqDiff,ge_iff_le,qaI,h1,h2]
  ·simp -implicitDefEqProofs only[qad,qae,qap,qac,qau,qah,aOp,opd,qai,qak,qag,qbb,qba,qaj,qaw,qaT,qan,qax,qaH,qbf,beq_self_eq_true,Option.getD_some,List.getElem?_cons_zero,List.getElem?_cons_succ,↓reduceIte,Bool.false_eq_true,and_false,decide_true,decide_false,reduceCtorEq,Nat.reduceEqDiff,ge_iff_le,qaI,h1,h2]
 ·simp -implicitDefEqProofs only[qad,qae,qap,qac,qau,qah,aOp,opd,qai,qak,qag,qbb,qba,qaj,qaw,qaT,qan,qax,qaH,qbf,qb9,Option.getD_some,List.getElem?_cons_zero,List.getElem?_cons_succ,↓reduceIte,Bool.false_eq_true,false_and,decide_false,reduceCtorEq,Nat.reduceEqDiff,ge_iff_le,qaI,h1]
def qjU (op:Int):Bool:=op==2 || op==5 || op==12 || op==13
def qjW (op:Int):Bool:=op==14 || op==15 || op==16
theorem qpo (hf:L.fns 191=some fn191) (op:Int) (h:Heap):pcall L 191 [.int .i64 op] h=some (.val (.bool (qjU op)),h):=by
 refine qbK hL hf rfl ?_ h
 unfold fn191 qjU
 cases h1:op==2<;>cases h2:op==5<;>cases h3:op==12<;>cases h4:op==13<;>simp -implicitDefEqProofs only[qad,qae,qap,qac,qau,qah,aOp,opd,qai,qak,qag,qbb,qba,qaj,qaw,qaT,qan,qax,qaH,qbf,qc4,beq_self_eq_true,Option.getD_some,List.getElem?_cons_zero,↓reduceIte,Bool.or_true,Bool.or_false,Bool.false_eq_true,reduceCtorEq,Nat.reduceEqDiff,qaI,h1,h2,h3,h4]
theorem qpr (hf:L.fns 192=some fn192) (op:Int) (h:Heap):pcall L 192 [.int .i64 op] h=some (.val (.bool (qjW op)),h):=by
 refine qbK hL hf rfl ?_ h
 unfold fn192 qjW
 cases h1:op==14<;>cases h2:op==15<;>cases h3:op==16<;>simp -implicitDefEqProofs only[qad,qae,qap,qac,qau,qah,aOp,opd,qai,qak,qag,qbb,qba,qaj,qaw,qaT,qan,qax,qaH,qbf,qc4,beq_self_eq_true,Option.getD_some,List.getElem?_cons_zero,↓reduceIte,Bool.or_true,Bool.or_false,Bool.false_eq_true,reduceCtorEq,Nat.reduceEqDiff,qaI,h1,h2,h3]
theorem quz (hf:L.fns 181=some fn181) (l:List Int) (hl:l.length<2 ^ 30) (n:Int) (h:Heap):pcall L 181 [.list (l.map qaY) none,.int .i64 n] h=some (.val (.int .i64 (qyD l n)),h):=by
 have hp:=hL.pure
 have hloop:qb7 L.pure (call L) 0 [0,1,7,8] [4] 0 qiq ⟨kt [0,1,7,8] [.list (l.map qaY) none,.int .i64 n,.int .i64 l.length,.int .i64 ((0:Nat):Int)],[]⟩ =
   some (qcv (fun r=>⟨kt [4] [.int .i64 r],[]⟩) ⟨kt [4] [.junk],[]⟩ (qbw (fun i x=>if (n==x)=true then some (i:Int) else none) l 0)):=by
  refine qdA l (fun i x=>if (n==x)=true then some (i:Int) else none) (fun i=>⟨kt [0,1,7,8] [.list (l.map qaY) none,.int .i64 n,.int .i64 l.length,.int .i64 i],[]⟩) _ _ ?_ ?_ ?_
  ·intro i hi hq
   obtain⟨h1,h2,h3⟩:=qbz qaY l hl i hi
   have hq:(n==l[i])=false:=by
    cases hx:n==l[i] with
    | false=>rfl
    | true=>simp[hx] at hq
   generalize l[i]=a at *
   unfold qiq
   simp -implicitDefEqProofs only[qam,qad,qae,qab,qal,qac,qah,aOp,opd,qai,qaB,qag,qbb,qba,qas,qaj,qaA,qaM,qa0,qaf,qaE,qat,qaF,qa5,ren,renC,qbm,qbU,qcd,qaa,qaq,Option.getD_none,List.map_cons,List.map_nil,List.flatMap_cons,List.flatMap_nil,List.length_cons,List.length_nil,List.append_nil,List.getElem?_nil,List.getElem?_cons_zero,List.take_nil,↓reduceIte,Bool.false_eq_true,decide_true,decide_false,Nat.le_refl,reduceCtorEq,Nat.zero_add,Nat.reduceEqDiff,Int.toNat_natCast,Int.natCast_nonneg,qaz,qa1,qb1,qay,h1,h2,h3,hq]
  ·intro i hi r hq
   obtain⟨h1,h2,h3⟩:=qbz qaY l hl i hi
   have hx:(n==l[i])=true:=by
    cases hx:n==l[i] with
    | true=>rfl
    | false=>simp[hx] at hq
   rw[if_pos hx] at hq
   injection hq with hq
   subst hq
   generalize l[i]=a at *
   unfold qiq
   simp -implicitDefEqProofs only[qam,qad,qae,qab,qal,qap,qac,qah,aOp,opd,qai,qaB,qag,qbb,qba,qas,qaj,qaA,qaM,gcE,qa0,qaf,qaE,qat,qaF,qa5,ren,renC,qbm,qbU,qcd,qaq,Option.getD_none,List.map_cons,List.map_nil,List.flatMap_cons,List.flatMap_nil,List.length_cons,List.length_nil,List.append_nil,List.getElem?_nil,List.getElem?_cons_zero,List.take_nil,↓reduceIte,Bool.false_eq_true,decide_true,decide_false,Nat.le_refl,reduceCtorEq,Nat.zero_add,Nat.reduceEqDiff,Int.toNat_natCast,Int.natCast_nonneg,qaz,qa1,qb1,h1,h2,h3,hx]
  ·have h0:=qbA l.length
   unfold qiq
   simp -implicitDefEqProofs only[qad,qae,qab,qbk,qac,qah,aOp,opd,qai,qaB,qag,qbb,qba,qaj,gcE,qa0,qaf,qaE,qat,qaF,qa5,ren,renC,qbm,qbU,qcd,qbX,Option.getD_none,List.map_cons,List.map_nil,List.flatMap_cons,List.flatMap_nil,List.length_nil,List.append_nil,List.getElem?_nil,List.take_nil,↓reduceIte,Bool.false_eq_true,decide_false,Nat.le_refl,reduceCtorEq,Nat.reduceEqDiff,qaz,qa1,h0]
 simp only[Int.natCast_zero] at hloop
 unfold qyD
 refine qbK hL hf rfl ?_ h
 unfold fn181
 cases hq:qbw (fun i x=>if (n==x)=true then some (i:Int) else none) l 0<;>simp only[hq,qcv] at hloop<;>simp -implicitDefEqProofs only[qad,qae,qap,qac,qah,aOp,opd,qai,qak,qaB,qag,qcg,qaT,qan,qax,qaH,qaS,qa0,qaf,qaE,qat,qaF,qa5,ren,renC,qbm,qbU,qcd,qbM,qaa,qaq,Option.getD_some,Option.getD_none,List.map_cons,List.map_nil,List.flatMap_cons,List.flatMap_nil,List.length_nil,List.length_map,List.append_nil,List.getElem?_nil,List.getElem?_cons_zero,List.getElem?_cons_succ,List.take_nil,↓reduceIte,Bool.false_eq_true,decide_false,Nat.le_refl,reduceCtorEq,Nat.reduceEqDiff,Int.reduceNeg,qaI,qay,hloop]
theorem qkE (h181:L.fns 181=some fn181) (hf:L.fns 151=some fn151) (l:List Int) (hl:l.length<2 ^ 30) (n:Int) (h:Heap):pcall L 151 [.list (l.map qaY) none,.int .i64 n] h=some (.val (.bool (qrC l n)),h):=by
 have hp:=hL.pure
 have h1:=quz hL h181 l hl n
 have h2:=quy l n
 refine qbK hL hf rfl ?_ h
 unfold fn151
 simp -implicitDefEqProofs only[qad,qae,qap,qac,qah,aOp,opd,qai,qak,qag,qbb,qba,qaj,qaT,qan,qax,qaH,qbo,qbx,qbf,qaa,qaq,qav,qao,Option.getD_some,List.map_cons,List.map_nil,List.getElem?_cons_zero,List.getElem?_cons_succ,↓reduceIte,Bool.and_true,Bool.false_eq_true,and_self,reduceCtorEq,Nat.reduceEqDiff,ge_iff_le,qa7,qaI,qay,h1,h2,qaN L hp,hp]
end
def qyC {α:Type} (p:α→Bool) (xs:List α):Int:=match qbw (fun i a=>if p a=true then some i else none) xs 0 with | some i=>(i:Nat) | none => -1
theorem qij {α:Type} (p:α→Bool):∀ (xs:List α) (k:Nat),(qbw (fun i a=>if p a=true then some i else none) xs k).isSome=xs.any p
 | [],k=>rfl
 | x :: xs,k => by
   rw[qbw,List.any_cons]
   cases hp:p x
   ·simp only[Bool.false_eq_true,if_false,Bool.false_or]
    exact qij p xs (k+1)
   ·rfl
theorem qux {α:Type} (p:α→Bool) (xs:List α):decide (0≤qyC p xs)=xs.any p:=by
 rw[← qij p xs 0]
 unfold qyC
 cases qbw (fun i a=>if p a=true then some i else none) xs 0<;>simp
theorem qri (x y:Int):qfP false [.int .i64 x,.int .i64 y]=some (.int .i64 (min x y)):=by
 simp only[qfP,if_true,Bool.false_eq_true,if_false]
 congr 2
 split<;>omega
theorem qhr (x y:Int):qfP true [.int .i64 x,.int .i64 y]=some (.int .i64 (max x y)):=by
 simp only[qfP,if_true]
 congr 2
 split<;>omega
theorem qyd {L:Lib} (hL:Plain L) (hf:L.fns 266=some fn266) (f:AVal) (hd:qbd f=true) (hk:∃ g a c,f=.func g a c) (p:CAlt→Bool) (xs:List CAlt) (hl:xs.length<2 ^ 30)
  (hg:∀ a∈xs,∀ h:Heap,(match f with | .func g u c=>qdX L.pure (call L) g (u++.agg [.int .i64 a.tag,.list (a.binds.map qaY) none]::c) h | _=>none)=some (.val (.bool (p a)),h)) (h:Heap) :
  pcall L 266 [.list (xs.map qaU) none,f] h=some (.val (.int .i64 (qyC p xs)),h):=by
 have hp:=hL.pure
 obtain⟨g,u,c,rfl⟩:=hk
 dsimp only at hg
 refine qbK hL hf rfl ?_ h
 have hloop:=qdA (pure:=L.pure) (call:=call L) (b:=0) (keep:=[0,1,7,8]) (fk:=[4]) (id:=0) (body:=qiu) xs (fun i a=>if p a=true then some i else none)
  (fun i=>⟨kt [0,1,7,8] [.list (xs.map qaU) none,.func g u c,.int .i64 xs.length,.int .i64 i],[]⟩) ⟨kt [4] [.junk],[]⟩ (fun i=>⟨kt [4] [.int .i64 i],[]⟩)
  (by
   intro i hi hq
   have h1:((i:Int)<xs.length):=by omega
   have h2:IntKind.i64.wrap ((i:Int)+1)=((i+1:Nat):Int):=by rw[qc5 (by omega) (by omega)];rfl
   have h3:(xs.map qaU)[i]? = some (qaU xs[i]):=by simp[hi]
   have h5:=hg xs[i] (List.getElem_mem hi)
   have h6:p xs[i]=false:=by cases hx:p xs[i]<;>simp[hx] at hq ⊢
   generalize xs[i]=a at *
   unfold qiu
   simp -implicitDefEqProofs only[qam,qad,qae,qab,qal,qac,qah,aOp,opd,qai,qaB,qag,qbb,qba,qas,qaj,qbC,qar,qa0,qaf,qaE,qat,qaF,qa5,ren,renC,qbm,qbU,qcd,qaa,qaq,Option.map_some,Option.getD_none,List.map_cons,List.map_nil,List.flatMap_cons,List.flatMap_nil,List.length_cons,List.length_nil,List.cons_append,List.nil_append,List.append_nil,List.append_assoc,List.getElem?_nil,List.take_succ_cons,List.drop_zero,List.take_nil,↓reduceIte,Bool.false_eq_true,decide_true,decide_false,Nat.le_refl,reduceCtorEq,Nat.zero_add,Nat.reduceEqDiff,Nat.reduceAdd,Int.toNat_natCast,Int.natCast_nonneg,qaz,qa1,qbI,qaO,hd,h1,h2,h3,h5,h6,reduceCtorEq])
  (by
   intro i hi r hq
   have h1:((i:Int)<xs.length):=by omega
   have h3:(xs.map qaU)[i]? = some (qaU xs[i]):=by simp[hi]
   have h5:=hg xs[i] (List.getElem_mem hi)
   have h6:p xs[i]=true:=by cases hx:p xs[i]<;>simp[hx] at hq ⊢
   have h7:i=r:=by simpa[h6] using hq
   subst h7
   generalize xs[i]=a at *
   unfold qiu
   simp -implicitDefEqProofs only[qam,qad,qae,qab,qal,qap,qac,qah,aOp,opd,qai,qaB,qag,qbb,qba,qas,qaj,qbC,qar,gcE,qa0,qaf,qaE,qat,qaF,qa5,ren,renC,qbm,qbU,qcd,qaq,Option.map_some,Option.getD_none,List.map_cons,List.map_nil,List.flatMap_cons,List.flatMap_nil,List.length_cons,List.length_nil,List.cons_append,List.nil_append,List.append_nil,List.append_assoc,List.getElem?_nil,List.take_succ_cons,List.drop_zero,List.take_nil,↓reduceIte,Bool.false_eq_true,decide_true,decide_false,Nat.le_refl,reduceCtorEq,Nat.zero_add,Nat.reduceEqDiff,Nat.reduceAdd,Int.toNat_natCast,Int.natCast_nonneg,qaz,qa1,qbI,hd,h1,h3,h5,h6,reduceCtorEq])
  (by
   have h0:¬ ((xs.length:Int)<xs.length):=by omega
   unfold qiu
   simp -implicitDefEqProofs only[qad,qae,qab,qbk,qac,qah,aOp,opd,qai,qaB,qag,qbb,qba,qaj,gcE,qa0,qaf,qaE,qat,qaF,qa5,ren,renC,qbm,qbU,qcd,qbX,Option.getD_none,List.map_cons,List.map_nil,List.flatMap_cons,List.flatMap_nil,List.length_nil,List.append_nil,List.getElem?_nil,List.take_nil,↓reduceIte,Bool.false_eq_true,decide_false,Nat.le_refl,reduceCtorEq,Nat.reduceEqDiff,qaz,qa1,hd,h0,reduceCtorEq])
 simp only[Int.natCast_zero] at hloop
 unfold fn266 qyC
 cases hq:qbw (fun i a=>if p a=true then some i else none) xs 0<;>simp only[hq,qcv] at hloop<;>simp -implicitDefEqProofs only[qad,qae,qap,qac,qah,aOp,opd,qai,qak,qaB,qag,qcg,qaT,qan,qax,qaH,qaS,qa0,qaf,qaE,qat,qaF,qa5,ren,renC,qbm,qbU,qcd,qbM,qaa,qaq,Option.getD_some,Option.getD_none,List.map_cons,List.map_nil,List.flatMap_cons,List.flatMap_nil,List.length_nil,List.length_map,List.append_nil,List.getElem?_nil,List.getElem?_cons_zero,List.getElem?_cons_succ,List.take_nil,↓reduceIte,Bool.false_eq_true,decide_false,Nat.le_refl,reduceCtorEq,Nat.reduceEqDiff,Int.reduceNeg,qaI,qaO,hd,hloop,hq]
theorem qx2 {L:Lib} (hL:Plain L) (hf:L.fns 264=some fn264) (hfi:L.fns 266=some fn266) (f:AVal) (hd:qbd f=true) (hk:∃ g a c,f=.func g a c) (p:CAlt→Bool) (xs:List CAlt) (hl:xs.length<2 ^ 30)
  (hg:∀ a∈xs,∀ h:Heap,(match f with | .func g u c=>qdX L.pure (call L) g (u++.agg [.int .i64 a.tag,.list (a.binds.map qaY) none]::c) h | _=>none)=some (.val (.bool (p a)),h)) (h:Heap) :
  pcall L 264 [.list (xs.map qaU) none,f] h=some (.val (.bool (xs.any p)),h):=by
 have hp:=hL.pure
 have hi:=qyd hL hfi f hd hk p xs hl hg
 obtain⟨g,u,c,rfl⟩:=hk
 refine qbK hL hf rfl ?_ h
 have ha:=qux p xs
 unfold fn264
 cases hq:xs.any p<;>rw[hq] at ha<;>simp -implicitDefEqProofs only[qad,qae,qap,qac,qah,aOp,opd,qai,qak,qag,qbb,qba,qaj,qaT,qan,qax,qaH,qbo,qbf,qcG,qaa,qav,qao,Option.getD_some,List.map_cons,List.map_nil,List.nil_append,List.append_nil,List.getElem?_cons_zero,List.getElem?_cons_succ,↓reduceIte,Bool.and_true,Bool.false_eq_true,reduceCtorEq,Nat.reduceEqDiff,ge_iff_le,qaI,qaO,hd,hi,qaN L hp,hp,ha]
def qlP (op:Int) (as:List CAlt) (i:Nat) (a:CAlt):Bool :=
 (as.take i).any (fun b=>b.tag==a.tag) || decide (a.tag < -1) || (op==7 && a.tag == -1 && (decide ((i:Int)<as.length-1) || decide ((0:Int)<a.binds.length))) ||
 (op==13 && (((i:Int)==0) != (a.tag == -1))) || (op==13 && ((a.binds.length:Int) != min ((i:Int)+1) 2))
def qko (op:Int) (as:List CAlt) (kids:Nat):Bool :=
 (qbw (fun i a=>if qlP op as i a=true then some () else none) as 0).isNone && ((kids:Int)==1+(as.length:Int)) && (op==7 || decide ((0:Int)<as.length))
theorem qtO (c:CAlt) {L:Lib} (hL:Plain L) (hf:L.fns 265=some fn265) (a:CAlt) (h:Heap) :
  pcall L 265 [.agg [.int .i64 a.tag,.list (a.binds.map qaY) none],.vptr [.int .i64 c.tag,.list (c.binds.map qaY) none] 0] h=some (.val (.bool (a.tag==c.tag)),h):=by
 refine qbK hL hf rfl ?_ h
 unfold fn265
 simp -implicitDefEqProofs only[qad,qae,qap,qac,qah,aOp,opd,qai,qak,qag,qbb,qba,qaj,qaA,qaG,qar,qaT,qan,qax,qaH,qbf,Option.getD_some,List.length_nil,List.nil_append,List.getElem?_cons_zero,List.getElem?_cons_succ,↓reduceIte,Bool.false_eq_true,Nat.add_zero,Nat.reduceEqDiff,qaI]
section
variable {L:Lib} (hL:Plain L)
include hL
theorem qqN (h265:L.fns 265=some fn265) (h264:L.fns 264=some fn264) (h266:L.fns 266=some fn266) (op n:Int) (binds kids:List Int) (as:List CAlt) (hl:as.length<2 ^ 30) (i:Nat) (hi:i<as.length) :
  qb6 L.pure (call L) 1 [1,7,8,9] [1,2] qdN ⟨kt [1,7,8,9] [.ptr (some (0,0)),.list (as.map qaU) none,.int .i64 as.length,.int .i64 i],[.box [.int .i64 op,.int .i64 n,.list (binds.map qaY) none,.list (kids.map qaY) none,.list (as.map qaU) none]]⟩ =
  some (if qlP op as i as[i]=true then (.ret,⟨kt [1,2] [.ptr (some (0,0)),.bool false],[.box [.int .i64 op,.int .i64 n,.list (binds.map qaY) none,.list (kids.map qaY) none,.list (as.map qaU) none]]⟩) else
   (.normal,⟨kt [1,7,8,9] [.ptr (some (0,0)),.list (as.map qaU) none,.int .i64 as.length,.int .i64 ((i+1:Nat):Int)],[.box [.int .i64 op,.int .i64 n,.list (binds.map qaY) none,.list (kids.map qaY) none,.list (as.map qaU) none]]⟩)):=by
 have hp:=hL.pure
 obtain⟨h1,h2,h3⟩:=qbz qaU as hl i hi
 have h4:(i:Int)≤as.length:=by omega
 have h5:(as.map qaU).take i=(as.take i).map qaU:=by rw[List.map_take]
 have hcon:=qx2 hL h264 h266 (.func 265 [] [.vptr [.int .i64 as[i].tag,.list (as[i].binds.map qaY) none] 0]) (by simp only[qbd,qa4,qay,Bool.and_self]) ⟨_,_,_,rfl⟩
  (fun b=>b.tag==as[i].tag) (as.take i) (by simp;omega)
  (by
   intro a ha h
   have:=qtO as[i] hL h265 a h
   dsimp only
   simp -implicitDefEqProofs only[qck,qbD,qbh,qbq,qaa,qaq,qch,qaQ,qav,qao,List.map_cons,List.map_nil,List.nil_append,↓reduceIte,Bool.and_true,qay,this,qaN L hp,hp])
 have h6:IntKind.i64.wrap ((as.length:Int)-1)=(as.length:Int)-1:=qc5 (by omega) (by omega)
 unfold qlP
 generalize ha:as[i]=a at *
 generalize (as.take i).any (fun b=>b.tag==a.tag)=again at *
 cases again with
 | true =>
   unfold qdN
   simp -implicitDefEqProofs only[qam,qad,qae,qab,qal,qap,qac,qau,qah,aOp,opd,qai,qa3,qaB,qag,qaZ,qbb,qba,qas,qaj,qaw,qaA,qby,qbC,qaG,leaf,qar,qaV,gcE,qa0,qaf,qaE,qat,qaD,qaF,qa5,ren,renC,qbj,qbU,qcd,qbi,qbo,qcG,qbh,qbq,qaa,qbJ,qaq,qbP,qaQ,qbc,qav,qao,qc4,Option.map_some,Option.map_none,List.map_cons,List.map_nil,List.flatMap_cons,List.flatMap_nil,List.length_cons,List.length_nil,List.length_map,List.cons_append,List.nil_append,List.append_nil,List.getElem?_cons_zero,List.getElem?_cons_succ,List.set_cons_zero,List.set_cons_succ,List.take_succ_cons,List.take_zero,List.drop_succ_cons,List.drop_zero,List.take_nil,List.drop_nil,List.all_cons,List.all_nil,List.not_mem_nil,↓reduceIte,Bool.and_true,Bool.true_or,Bool.false_eq_true,and_true,false_and,not_false_eq_true,decide_true,decide_false,and_self,Nat.le_refl,reduceCtorEq,Nat.zero_add,Nat.reduceEqDiff,Nat.reduceAdd,Nat.reduceLT,Nat.reduceLeDiff,Int.reduceToNat,Int.toNat_natCast,Int.natCast_nonneg,qaz,Int.reduceNeg,qa1,Int.cast_ofNat_Int,qbO,qca,qcC,qc0,frz,frzC,qja,qeJ,qeS,qbI,qay,qaO,qet,Int.le_refl,h1,h2,h3,h4,h5,hcon,qaN L hp,hp]
 | false =>
   by_cases hlt:a.tag < -1
   ·unfold qdN
    simp -implicitDefEqProofs only[qam,qad,qae,qab,qal,qap,qac,qau,qah,aOp,opd,qai,qa3,qaB,qag,qaZ,qbb,qba,qas,qaj,qaw,qaA,qby,qbC,qaG,leaf,qar,qaV,gcE,qa0,qaf,qaE,qat,qaD,qaF,qa5,ren,renC,qbj,qbU,qcd,qbi,qbo,qcG,qbh,qbq,qaa,qbJ,qaq,qbP,qaQ,qbc,qav,qao,beq_self_eq_true,Option.map_some,Option.map_none,List.map_cons,List.map_nil,List.flatMap_cons,List.flatMap_nil,List.length_cons,List.length_nil,List.length_map,List.cons_append,List.nil_append,List.append_nil,List.getElem?_cons_zero,List.getElem?_cons_succ,List.set_cons_zero,List.set_cons_succ,List.take_succ_cons,List.take_zero,List.drop_succ_cons,List.drop_zero,List.take_nil,List.drop_nil,List.all_cons,List.all_nil,List.not_mem_nil,↓reduceIte,Bool.and_true,Bool.or_true,Bool.true_or,Bool.false_eq_true,and_true,false_and,not_false_eq_true,decide_true,decide_false,and_self,Nat.le_refl,reduceCtorEq,Nat.add_zero,Nat.zero_add,Nat.reduceEqDiff,Nat.reduceAdd,Nat.reduceLT,Nat.reduceLeDiff,Int.reduceToNat,Int.toNat_natCast,Int.natCast_nonneg,qaz,Int.reduceNeg,qa1,Int.cast_ofNat_Int,qbO,qca,qcC,qc0,frz,frzC,qja,qeJ,qeS,qbI,qay,qaO,qet,Int.le_refl,h1,h2,h3,h4,h5,hcon,qaN L hp,hp,hlt]
   ·cases h7:op==7 with
    | true =>
      have h13:(op==13)=false:=by
       have:op=7:=by simpa using h7
       subst this;rfl
      cases hm:a.tag == -1 with
      | true =>
        by_cases hq:(i:Int)<as.length-1
        ·unfold qdN
         simp -implicitDefEqProofs only[qam,qad,qae,qab,qal,qap,qac,qau,qah,aOp,opd,qai,qa3,qaB,qag,qaZ,qbb,qcg,qba,qas,qaj,qaw,qaA,qby,qbC,qaG,leaf,qar,qaV,gcE,qa0,qaf,qaE,qat,qaD,qaF,qa5,ren,renC,qbj,qbU,qcd,qbi,qbo,qcG,qbh,qbq,qaa,qbJ,qaq,qbP,qaQ,qbc,qav,qao,qc4,beq_self_eq_true,Option.map_some,Option.map_none,List.map_cons,List.map_nil,List.flatMap_cons,List.flatMap_nil,List.length_cons,List.length_nil,List.length_map,List.cons_append,List.nil_append,List.append_nil,List.getElem?_cons_zero,List.getElem?_cons_succ,List.set_cons_zero,List.set_cons_succ,List.take_succ_cons,List.take_zero,List.drop_succ_cons,List.drop_zero,List.take_nil,List.drop_nil,List.all_cons,List.all_nil,List.not_mem_nil,↓reduceIte,Bool.and_true,Bool.false_and,Bool.or_true,Bool.true_or,Bool.or_false,Bool.false_eq_true,and_true,false_and,not_false_eq_true,decide_true,decide_false,and_self,Nat.le_refl,reduceCtorEq,Nat.add_zero,Nat.zero_add,Nat.reduceEqDiff,Nat.reduceAdd,Nat.reduceLT,Nat.reduceLeDiff,Int.reduceToNat,Int.toNat_natCast,Int.natCast_nonneg,qaz,Int.reduceNeg,qa1,Int.cast_ofNat_Int,qbO,qca,qcC,qc0,frz,frzC,qja,qeJ,qeS,qbI,qay,qaO,qet,Int.le_refl,h1,h2,h3,h4,h5,h6,hcon,qaN L hp,hp,hlt,h7,h13,hm,hq]
        ·by_cases hb:(0:Int)<a.binds.length
         ·unfold qdN
          simp -implicitDefEqProofs only[qam,qad,qae,qab,qal,qap,qac,qau,qah,aOp,opd,qai,qa3,qaB,qag,qaZ,qbb,qcg,qba,qas,qaj,qaw,qaA,qby,qbC,qaG,leaf,qar,qaV,gcE,qa0,qaf,qaE,qat,qaD,qaF,qa5,ren,renC,qbj,qbU,qcd,qbi,qbo,qcG,qbh,qbq,qaa,qbJ,qaq,qbP,qaQ,qbc,qav,qao,beq_self_eq_true,Option.map_some,Option.map_none,List.map_cons,List.map_nil,List.flatMap_cons,List.flatMap_nil,List.length_cons,List.length_nil,List.length_map,List.cons_append,List.nil_append,List.append_nil,List.getElem?_cons_zero,List.getElem?_cons_succ,List.set_cons_zero,List.set_cons_succ,List.take_succ_cons,List.take_zero,List.drop_succ_cons,List.drop_zero,List.take_nil,List.drop_nil,List.all_cons,List.all_nil,List.not_mem_nil,↓reduceIte,Bool.and_true,Bool.false_and,Bool.or_true,Bool.or_false,Bool.false_eq_true,and_true,false_and,not_false_eq_true,decide_true,decide_false,and_self,Nat.le_refl,reduceCtorEq,Nat.add_zero,Nat.zero_add,Nat.reduceEqDiff,Nat.reduceAdd,Nat.reduceLT,Nat.reduceLeDiff,Int.reduceToNat,Int.toNat_natCast,Int.natCast_nonneg,qaz,Int.reduceNeg,qa1,Int.cast_ofNat_Int,gt_iff_lt,qbO,qca,qcC,qc0,frz,frzC,qja,qeJ,qeS,qbI,qay,qaO,qet,Int.le_refl,h1,h2,h3,h4,h5,h6,hcon,qaN L hp,hp,hlt,h7,h13,hm,hq,hb]
         ·unfold qdN
          simp -implicitDefEqProofs only[qam,qad,qae,qab,qal,qac,qau,qah,aOp,opd,qai,qa3,qaB,qag,qaZ,qbb,qcg,qba,qas,qaj,qaw,qaA,qby,qbC,qaG,leaf,qar,qaV,qa0,qaf,qaE,qat,qaD,qaF,qa5,ren,renC,qbj,qbU,qcd,qbi,qbo,qcG,qbh,qbq,qaa,qaq,qbP,qaQ,qbc,qav,qao,qb9,beq_self_eq_true,Option.map_some,Option.map_none,List.map_cons,List.map_nil,List.flatMap_cons,List.flatMap_nil,List.length_cons,List.length_nil,List.length_map,List.cons_append,List.nil_append,List.append_nil,List.getElem?_cons_zero,List.getElem?_cons_succ,List.set_cons_zero,List.set_cons_succ,List.take_succ_cons,List.take_zero,List.drop_succ_cons,List.drop_zero,List.take_nil,List.drop_nil,List.all_cons,List.all_nil,List.not_mem_nil,↓reduceIte,Bool.and_true,Bool.and_false,Bool.false_and,Bool.or_false,Bool.false_eq_true,and_true,false_and,not_false_eq_true,decide_true,decide_false,and_self,Nat.le_refl,reduceCtorEq,Nat.add_zero,Nat.zero_add,Nat.reduceEqDiff,Nat.reduceAdd,Nat.reduceLT,Nat.reduceLeDiff,Int.reduceToNat,Int.toNat_natCast,Int.natCast_nonneg,qaz,Int.reduceNeg,qa1,Int.cast_ofNat_Int,gt_iff_lt,qbO,qca,qcC,qc0,frz,frzC,qja,qeJ,qeS,qbI,qay,qaO,qet,Int.le_refl,h1,h2,h3,h4,h5,h6,hcon,qaN L hp,hp,hlt,h7,h13,hm,hq,hb]
      | false =>
        unfold qdN
        simp -implicitDefEqProofs only[qam,qad,qae,qab,qal,qac,qau,qah,aOp,opd,qai,qa3,qaB,qag,qaZ,qbb,qba,qas,qaj,qaw,qaA,qby,qbC,qaG,leaf,qar,qaV,qa0,qaf,qaE,qat,qaD,qaF,qa5,ren,renC,qbj,qbU,qcd,qbi,qbo,qcG,qbh,qbq,qaa,qaq,qbP,qaQ,qbc,qav,qao,qb9,beq_self_eq_true,Option.map_some,Option.map_none,List.map_cons,List.map_nil,List.flatMap_cons,List.flatMap_nil,List.length_cons,List.length_nil,List.length_map,List.cons_append,List.nil_append,List.append_nil,List.getElem?_cons_zero,List.getElem?_cons_succ,List.set_cons_zero,List.set_cons_succ,List.take_succ_cons,List.take_zero,List.drop_succ_cons,List.drop_zero,List.take_nil,List.drop_nil,List.all_cons,List.all_nil,List.not_mem_nil,↓reduceIte,Bool.and_true,Bool.and_false,Bool.false_and,Bool.or_false,Bool.false_eq_true,and_true,false_and,not_false_eq_true,decide_true,decide_false,and_self,Nat.le_refl,reduceCtorEq,Nat.add_zero,Nat.zero_add,Nat.reduceEqDiff,Nat.reduceAdd,Nat.reduceLT,Nat.reduceLeDiff,Int.reduceToNat,Int.toNat_natCast,Int.natCast_nonneg,qaz,Int.reduceNeg,qa1,Int.cast_ofNat_Int,qbO,qca,qcC,qc0,frz,frzC,qja,qeJ,qeS,qbI,qay,qaO,qet,Int.le_refl,h1,h2,h3,h4,h5,h6,hcon,qaN L hp,hp,hlt,h7,h13,hm]
    | false =>
      cases h13:op==13 with
      | false =>
        unfold qdN
        simp -implicitDefEqProofs only[qam,qad,qae,qab,qal,qac,qau,qah,aOp,opd,qai,qa3,qaB,qag,qaZ,qbb,qba,qas,qaj,qaw,qaA,qby,qbC,qaG,leaf,qar,qaV,qa0,qaf,qaE,qat,qaD,qaF,qa5,ren,renC,qbj,qbU,qcd,qbi,qbo,qcG,qbh,qbq,qaa,qaq,qbP,qaQ,qbc,qav,qao,qb9,beq_self_eq_true,Option.map_some,Option.map_none,List.map_cons,List.map_nil,List.flatMap_cons,List.flatMap_nil,List.length_cons,List.length_nil,List.length_map,List.cons_append,List.nil_append,List.append_nil,List.getElem?_cons_zero,List.getElem?_cons_succ,List.set_cons_zero,List.set_cons_succ,List.take_succ_cons,List.take_zero,List.drop_succ_cons,List.drop_zero,List.take_nil,List.drop_nil,List.all_cons,List.all_nil,List.not_mem_nil,↓reduceIte,Bool.and_true,Bool.false_and,Bool.or_false,Bool.false_eq_true,and_true,false_and,not_false_eq_true,decide_true,decide_false,and_self,Nat.le_refl,reduceCtorEq,Nat.add_zero,Nat.zero_add,Nat.reduceEqDiff,Nat.reduceAdd,Nat.reduceLT,Nat.reduceLeDiff,Int.reduceToNat,Int.toNat_natCast,Int.natCast_nonneg,qaz,Int.reduceNeg,qa1,Int.cast_ofNat_Int,qbO,qca,qcC,qc0,frz,frzC,qja,qeJ,qeS,qbI,qay,qaO,qet,Int.le_refl,h1,h2,h3,h4,h5,h6,hcon,qaN L hp,hp,hlt,h7,h13]
      | true =>
        have h10:qfP false [.int .i64 ((i+1:Nat):Int),.int .i64 2]=some (.int .i64 (min ((i:Int)+1) 2)):=qri _ 2
        cases hm:a.tag == -1<;>cases h0:((i:Int)==0)<;>cases hbl:((a.binds.length:Int)==min ((i:Int)+1) 2)<;>unfold qdN <;>
         simp -implicitDefEqProofs only[qam,qad,qae,qab,qal,qap,qac,qau,qah,aOp,opd,qai,qa3,qaB,qag,qaZ,qbb,qcg,qba,aEq,qas,qaj,qaw,qaA,qby,qbC,qaG,leaf,qar,qaV,gcE,qa0,qaf,qaE,qat,qaD,qaF,qa5,ren,renC,qbj,qbU,qcd,qbi,qbo,qcG,qbh,qbq,qaa,qbJ,qaq,qbP,qaQ,qbc,qav,qao,qc4,qb9,beq_self_eq_true,Option.map_some,Option.map_none,List.map_cons,List.map_nil,List.flatMap_cons,List.flatMap_nil,List.length_cons,List.length_nil,List.length_map,List.cons_append,List.nil_append,List.append_nil,List.getElem?_cons_zero,List.getElem?_cons_succ,List.set_cons_zero,List.set_cons_succ,List.take_succ_cons,List.take_zero,List.drop_succ_cons,List.drop_zero,List.take_nil,List.drop_nil,List.all_cons,List.all_nil,List.not_mem_nil,↓reduceIte,Bool.and_true,Bool.and_false,Bool.false_and,Bool.or_true,Bool.or_false,Bool.not_true,Bool.not_false,Bool.false_eq_true,and_true,false_and,not_false_eq_true,decide_true,decide_false,and_self,Nat.le_refl,reduceCtorEq,Nat.add_zero,Nat.zero_add,Nat.reduceEqDiff,Nat.reduceAdd,Nat.reduceLT,Nat.reduceLeDiff,Int.reduceToNat,Int.toNat_natCast,Int.natCast_nonneg,qaz,Int.reduceNeg,qa1,Int.cast_ofNat_Int,qbO,qca,qcC,qc0,frz,frzC,qja,qeJ,qeS,qbI,qay,qaO,qet,Int.le_refl,h1,h2,h3,h4,h5,h6,hcon,qaN L hp,hp,hlt,h7,h13,hm,h0,h10,hbl,bne]
theorem qvG (h265:L.fns 265=some fn265) (h264:L.fns 264=some fn264) (h266:L.fns 266=some fn266) (h258:L.fns 258=some fn258) (op n:Int) (binds kids:List Int) (as:List CAlt) (hl:as.length<2 ^ 30) (h:Heap) :
  pcall L 258 [.agg [.int .i64 op,.int .i64 n,.list (binds.map qaY) none,.list (kids.map qaY) none,.list (as.map qaU) none]] h=some (.val (.bool (qko op as kids.length)),h):=by
 have hp:=hL.pure
 have hround:=qqN hL h265 h264 h266 op n binds kids as hl
 have hloop:=qdA (pure:=L.pure) (call:=call L) (b:=1) (keep:=[1,7,8,9]) (fk:=[1,2]) (id:=0) (body:=qdN) as (fun i a=>if qlP op as i a=true then some () else none)
  (fun i=>⟨kt [1,7,8,9] [.ptr (some (0,0)),.list (as.map qaU) none,.int .i64 as.length,.int .i64 i],[.box [.int .i64 op,.int .i64 n,.list (binds.map qaY) none,.list (kids.map qaY) none,.list (as.map qaU) none]]⟩)
  ⟨kt [1,2] [.ptr (some (0,0)),.junk],[.box [.int .i64 op,.int .i64 n,.list (binds.map qaY) none,.list (kids.map qaY) none,.list (as.map qaU) none]]⟩
  (fun _=>⟨kt [1,2] [.ptr (some (0,0)),.bool false],[.box [.int .i64 op,.int .i64 n,.list (binds.map qaY) none,.list (kids.map qaY) none,.list (as.map qaU) none]]⟩)
  (by
   intro i hi hq
   rw[hround i hi,if_neg]
   intro hb
   rw[if_pos hb] at hq
   cases hq)
  (by
   intro i hi r hq
   rw[hround i hi,if_pos]
   cases hb:qlP op as i as[i] with
   | true=>rfl
   | false=>rw[hb] at hq;cases hq)
  (by
   have h0:=qbA as.length
   unfold qdN
   simp -implicitDefEqProofs only[qad,qae,qab,qbk,qac,qah,aOp,opd,qai,qaB,qag,qbb,qba,qaj,gcE,qa0,qaf,qaE,qat,qaD,qaF,qa5,ren,renC,qbj,qbU,qcd,qbi,qaa,qaq,qbc,qbX,List.map_cons,List.map_nil,List.flatMap_cons,List.flatMap_nil,List.length_cons,List.length_nil,List.append_nil,List.take_succ_cons,List.take_nil,List.not_mem_nil,↓reduceIte,Bool.false_eq_true,and_true,not_false_eq_true,decide_false,Nat.le_refl,Nat.zero_add,Nat.reduceEqDiff,Nat.reduceLT,Nat.reduceLeDiff,qaz,Int.reduceNeg,qa1,qay,qaO,h0])
 simp only[Int.natCast_zero] at hloop
 refine qbK hL h258 rfl ?_ h
 have hw:IntKind.i64.wrap (1+(as.length:Int))=1+(as.length:Int):=qc5 (by omega) (by omega)
 unfold qko
 cases hq:qbw (fun i a=>if qlP op as i a=true then some () else none) as 0 with
 | some r =>
   simp only[hq,qcv] at hloop
   unfold fn258
   simp -implicitDefEqProofs only[qad,qae,qac,qah,aOp,opd,qai,qak,qaB,qag,qcg,qaA,qaG,qar,qaT,qan,qax,qaH,qaS,qa0,qaf,qaE,qat,qaD,qaF,qa5,ren,renC,qbj,qbU,qcd,qbi,qbf,qaa,qaq,qbc,Option.getD_some,List.map_cons,List.map_nil,List.flatMap_cons,List.flatMap_nil,List.length_cons,List.length_nil,List.length_map,List.nil_append,List.append_nil,List.getElem?_cons_zero,List.getElem?_cons_succ,List.take_succ_cons,List.take_nil,List.not_mem_nil,↓reduceIte,Bool.false_and,Bool.false_eq_true,and_true,not_false_eq_true,decide_false,Nat.le_refl,Nat.zero_add,Nat.reduceEqDiff,Nat.reduceLT,Nat.reduceLeDiff,qaI,qay,qaO,Option.isNone_some,hloop]
 | none =>
   simp only[hq,qcv] at hloop
   cases hk:((kids.length:Int)==1+(as.length:Int)) with
   | false =>
     unfold fn258
     simp -implicitDefEqProofs only[qad,qae,qap,qac,qau,qah,aOp,opd,qai,qak,qaB,qag,qbb,qcg,qba,qaj,qaw,qaA,qaG,qar,qaT,qan,qax,qaH,qaS,qa0,qaf,qaE,qat,qaD,qaF,qa5,ren,renC,qbj,qbU,qcd,qbi,qbf,qaa,qaq,qbc,qb9,Option.getD_some,List.map_cons,List.map_nil,List.flatMap_cons,List.flatMap_nil,List.length_cons,List.length_nil,List.length_map,List.nil_append,List.append_nil,List.getElem?_cons_zero,List.getElem?_cons_succ,List.take_succ_cons,List.take_nil,List.not_mem_nil,↓reduceIte,Bool.and_false,Bool.false_and,Bool.false_eq_true,and_true,not_false_eq_true,decide_false,Nat.le_refl,Nat.zero_add,Nat.reduceEqDiff,Nat.reduceLT,Nat.reduceLeDiff,qaI,qay,qaO,Option.isNone_none,hloop,hw,hk]
   | true =>
     cases h7:op==7 with
     | true =>
       unfold fn258
       simp -implicitDefEqProofs only[qad,qae,qap,qac,qau,qah,aOp,opd,qai,qak,qaB,qag,qbb,qcg,qba,qaj,qaw,qaA,qaG,qar,qaT,qan,qax,qaH,qaS,qa0,qaf,qaE,qat,qaD,qaF,qa5,ren,renC,qbj,qbU,qcd,qbi,qbf,qaa,qaq,qbc,qc4,beq_self_eq_true,Option.getD_some,List.map_cons,List.map_nil,List.flatMap_cons,List.flatMap_nil,List.length_cons,List.length_nil,List.length_map,List.nil_append,List.append_nil,List.getElem?_cons_zero,List.getElem?_cons_succ,List.take_succ_cons,List.take_nil,List.not_mem_nil,↓reduceIte,Bool.and_true,Bool.true_or,Bool.false_eq_true,and_true,not_false_eq_true,decide_false,Nat.le_refl,Nat.add_zero,Nat.zero_add,Nat.reduceEqDiff,Nat.reduceLT,Nat.reduceLeDiff,qaI,qay,qaO,Option.isNone_none,hloop,hw,hk,h7]
     | false =>
       unfold fn258
       simp -implicitDefEqProofs only[qad,qae,qap,qac,qau,qah,aOp,opd,qai,qak,qaB,qag,qbb,qcg,qba,qaj,qaw,qaA,qaG,qar,qaT,qan,qax,qaH,qaS,qa0,qaf,qaE,qat,qaD,qaF,qa5,ren,renC,qbj,qbU,qcd,qbi,qbf,qaa,qaq,qbc,beq_self_eq_true,Option.getD_some,List.map_cons,List.map_nil,List.flatMap_cons,List.flatMap_nil,List.length_cons,List.length_nil,List.length_map,List.nil_append,List.append_nil,List.getElem?_cons_zero,List.getElem?_cons_succ,List.take_succ_cons,List.take_nil,List.not_mem_nil,↓reduceIte,Bool.and_true,Bool.true_and,Bool.false_or,Bool.false_eq_true,and_true,not_false_eq_true,decide_false,Nat.le_refl,Nat.add_zero,Nat.zero_add,Nat.reduceEqDiff,Nat.reduceLT,Nat.reduceLeDiff,gt_iff_lt,qaI,qay,qaO,Option.isNone_none,hloop,hw,hk,h7]
end
end Go.Abs
