/-
  PARTS OF A PROOF, joined: an abstract machine for quiet code, its evaluation, and what the seat's functions answer on it. Conditions: none.
-/
import Derived.Test.YtpchghpipgpkfaaDoorCoreE
import Derived.Test.YtpchghpipgpkfaaDoorC
set_option linter.unusedVariables false
set_option linter.unusedSimpArgs false
set_option maxRecDepth 100000
set_option maxHeartbeats 4000000
namespace Go.Abs
def qB9 (l:List Int) (n:Int):Int:=(qaE (fun i x=>if (n==x)=true then some (i:Int) else none) l 0).getD (-1)
def qsR (l:List Int) (n:Int):Bool:=l.any fun x=>x==n
theorem qrJ (n:Int):∀ (l:List Int) (k:Nat),(∀ r,qaE (fun i x=>if (n==x)=true then some (i:Int) else none) l k=some r→0≤r)∧(qaE (fun i x=>if (n==x)=true then some (i:Int) else none) l k).isSome=qsR l n
 | [],k=>⟨fun r h=>by (cases h),rfl⟩
 | x :: xs,k => by
   obtain⟨h1,h2⟩:=qrJ n xs (k+1)
   rw[qaE]
   unfold qsR at h2 ⊢
   rw[List.any_cons]
   by_cases hx:n=x
   ·subst hx
    simp only[beq_self_eq_true,if_true]
    exact⟨fun r h=>by injection h with h;omega,rfl⟩
   ·have e1:(n==x)=false:=by simpa using hx
    have e2:(x==n)=false:=by simpa using fun h=>hx h.symm
    simp only[e1,e2,Bool.false_eq_true,if_false,Bool.false_or]
    exact⟨h1,h2⟩
theorem qxs (l:List Int) (n:Int):decide (0≤qB9 l n)=qsR l n:=by
 obtain⟨h1,h2⟩:=qrJ n l 0
 unfold qB9
 cases hq:qaE (fun i x=>if (n==x)=true then some (i:Int) else none) l 0 with
 | none =>
   rw[hq] at h2
   rw[← h2]
   rfl
 | some r =>
   rw[hq] at h2
   have:=h1 r hq
   rw[← h2]
   simpa using this
section
variable {L:Lib} (hL:Plain L)
include hL
theorem qei (hf:L.fns 259=some fn259) (n a b:Int) (h:Heap):pcall L 259 [.int .i64 n,.int .i64 a,.int .i64 b] h=some (.val (.bool (decide (a≤n∧n≤b))),h):=by
 refine qaX hL hf rfl ?_ h
 unfold fn259
 by_cases h1:a≤n
 ·by_cases h2:n≤b
  ·simp -implicitDefEqProofs only[ev_,aOp,opd,qaa,qaB,qaA,qab,qaf,qan,qac,qae,qaj,↓reduceIte,reduceCtorEq,Nat.reduceEqDiff,ge_iff_le,qak,h1,h2]
  ·simp -implicitDefEqProofs only[ev_,aOp,opd,qaa,qaB,qaA,qab,qaf,qan,qac,qae,qaj,↓reduceIte,reduceCtorEq,Nat.reduceEqDiff,ge_iff_le,qak,h1,h2]
 ·simp -implicitDefEqProofs only[ev_,aOp,opd,qaa,qaB,qaA,qab,qaf,qan,qac,qae,qaj,↓reduceIte,reduceCtorEq,Nat.reduceEqDiff,ge_iff_le,qak,h1]
def qjZ (op:Int):Bool:=op==2 || op==5 || op==12 || op==13
def qj0 (op:Int):Bool:=op==14 || op==15 || op==16
theorem qqy (hf:L.fns 191=some fn191) (op:Int) (h:Heap):pcall L 191 [.int .i64 op] h=some (.val (.bool (qjZ op)),h):=by
 refine qaX hL hf rfl ?_ h
 unfold fn191 qjZ
 cases h1:op==2<;>cases h2:op==5<;>cases h3:op==12<;>cases h4:op==13<;>simp -implicitDefEqProofs only[ev_,aOp,opd,qaa,qaB,qaA,qab,qaf,qan,qac,qae,qaj,↓reduceIte,reduceCtorEq,Nat.reduceEqDiff,qak,h1,h2,h3,h4]
theorem qqB (hf:L.fns 192=some fn192) (op:Int) (h:Heap):pcall L 192 [.int .i64 op] h=some (.val (.bool (qj0 op)),h):=by
 refine qaX hL hf rfl ?_ h
 unfold fn192 qj0
 cases h1:op==14<;>cases h2:op==15<;>cases h3:op==16<;>simp -implicitDefEqProofs only[ev_,aOp,opd,qaa,qaB,qaA,qab,qaf,qan,qac,qae,qaj,↓reduceIte,reduceCtorEq,Nat.reduceEqDiff,qak,h1,h2,h3]
theorem qxt (hf:L.fns 181=some fn181) (l:List Int) (hl:l.length<2 ^ 30) (n:Int) (h:Heap):pcall L 181 [.list (l.map qav) none,.int .i64 n] h=some (.val (.int .i64 (qB9 l n)),h):=by
 have hp:=hL.pure
 have hloop:qba L.pure (call L) 0 [0,1,7,8] [4] 0 qif ⟨kt [0,1,7,8] [.list (l.map qav) none,.int .i64 n,.int .i64 l.length,.int .i64 ((0:Nat):Int)],[]⟩ =
   some (qbh (fun r=>⟨kt [4] [.int .i64 r],[]⟩) ⟨kt [4] [.junk],[]⟩ (qaE (fun i x=>if (n==x)=true then some (i:Int) else none) l 0)):=by
  refine qb6 l (fun i x=>if (n==x)=true then some (i:Int) else none) (fun i=>⟨kt [0,1,7,8] [.list (l.map qav) none,.int .i64 n,.int .i64 l.length,.int .i64 i],[]⟩) _ _ ?_ ?_ ?_
  ·intro i hi hq
   obtain⟨h1,h2,h3⟩:=qaN qav l hl i hi
   have hq:(n==l[i])=false:=by
    cases hx:n==l[i] with
    | false=>rfl
    | true=>simp[hx] at hq
   generalize l[i]=a at *
   unfold qif
   simp -implicitDefEqProofs only[ev_,aOp,opd,qaa,qaB,qaA,qad,qab,qag,qaC,ren,renC,qa9,qbq,↓reduceIte,reduceCtorEq,Nat.reduceEqDiff,qa1,qah,h1,h2,h3,hq]
  ·intro i hi r hq
   obtain⟨h1,h2,h3⟩:=qaN qav l hl i hi
   have hx:(n==l[i])=true:=by
    cases hx:n==l[i] with
    | true=>rfl
    | false=>simp[hx] at hq
   rw[if_pos hx] at hq
   injection hq with hq
   subst hq
   generalize l[i]=a at *
   unfold qif
   simp -implicitDefEqProofs only[ev_,aOp,opd,qaa,qaB,qaA,qad,qab,qag,gcE,qaC,ren,renC,qa9,qbq,↓reduceIte,reduceCtorEq,Nat.reduceEqDiff,qa1,h1,h2,h3,hx]
  ·have h0:=qaQ l.length
   unfold qif
   simp -implicitDefEqProofs only[ev_,aOp,opd,qaa,qaB,qaA,qab,gcE,qaC,ren,renC,qa9,qbq,↓reduceIte,reduceCtorEq,Nat.reduceEqDiff,h0]
 simp only[Int.natCast_zero] at hloop
 unfold qB9
 refine qaX hL hf rfl ?_ h
 unfold fn181
 cases hq:qaE (fun i x=>if (n==x)=true then some (i:Int) else none) l 0<;>simp only[hq,qbh] at hloop<;>simp -implicitDefEqProofs only[ev_,aOp,opd,qaa,qbd,qan,qac,qae,qaj,qaC,ren,renC,qa9,qbq,↓reduceIte,reduceCtorEq,Nat.reduceEqDiff,Int.reduceNeg,qak,qah,hloop]
theorem qkN (h181:L.fns 181=some fn181) (hf:L.fns 151=some fn151) (l:List Int) (hl:l.length<2 ^ 30) (n:Int) (h:Heap):pcall L 151 [.list (l.map qav) none,.int .i64 n] h=some (.val (.bool (qsR l n)),h):=by
 have hp:=hL.pure
 have h1:=qxt hL h181 l hl n
 have h2:=qxs l n
 refine qaX hL hf rfl ?_ h
 unfold fn151
 simp -implicitDefEqProofs only[ev_,aOp,opd,qaa,qaB,qaA,qab,qan,qac,qae,qaj,↓reduceIte,reduceCtorEq,Nat.reduceEqDiff,ge_iff_le,qaw,qak,qah,h1,h2,qal L hp,hp]
end
def qB8 {α:Type} (p:α→Bool) (xs:List α):Int:=match qaE (fun i a=>if p a=true then some i else none) xs 0 with | some i=>(i:Nat) | none => -1
theorem qh8 {α:Type} (p:α→Bool):∀ (xs:List α) (k:Nat),(qaE (fun i a=>if p a=true then some i else none) xs k).isSome=xs.any p
 | [],k=>rfl
 | x :: xs,k => by
   rw[qaE,List.any_cons]
   cases hp:p x
   ·simp only[Bool.false_eq_true,if_false,Bool.false_or]
    exact qh8 p xs (k+1)
   ·rfl
theorem qxr {α:Type} (p:α→Bool) (xs:List α):decide (0≤qB8 p xs)=xs.any p:=by
 rw[← qh8 p xs 0]
 unfold qB8
 cases qaE (fun i a=>if p a=true then some i else none) xs 0<;>simp
theorem qs6 (x y:Int):qeq false [.int .i64 x,.int .i64 y]=some (.int .i64 (min x y)):=by
 simp only[qeq,if_true,Bool.false_eq_true,if_false]
 congr 2
 split<;>omega
theorem qhc (x y:Int):qeq true [.int .i64 x,.int .i64 y]=some (.int .i64 (max x y)):=by
 simp only[qeq,if_true]
 congr 2
 split<;>omega
theorem qBC {L:Lib} (hL:Plain L) (hf:L.fns 266=some fn266) (f:AVal) (hd:qaH f=true) (hk:∃ g a c,f=.func g a c) (p:CAlt→Bool) (xs:List CAlt) (hl:xs.length<2 ^ 30)
  (hg:∀ a∈xs,∀ h:Heap,(match f with | .func g u c=>qc8 L.pure (call L) g (u++.agg [.int .i64 a.tag,.list (a.binds.map qav) none]::c) h | _=>none)=some (.val (.bool (p a)),h)) (h:Heap) :
  pcall L 266 [.list (xs.map qas) none,f] h=some (.val (.int .i64 (qB8 p xs)),h):=by
 have hp:=hL.pure
 obtain⟨g,u,c,rfl⟩:=hk
 dsimp only at hg
 refine qaX hL hf rfl ?_ h
 have hloop:=qb6 (pure:=L.pure) (call:=call L) (b:=0) (keep:=[0,1,7,8]) (fk:=[4]) (id:=0) (body:=qil) xs (fun i a=>if p a=true then some i else none)
  (fun i=>⟨kt [0,1,7,8] [.list (xs.map qas) none,.func g u c,.int .i64 xs.length,.int .i64 i],[]⟩) ⟨kt [4] [.junk],[]⟩ (fun i=>⟨kt [4] [.int .i64 i],[]⟩)
  (by
   intro i hi hq
   have h1:((i:Int)<xs.length):=by omega
   have h2:IntKind.i64.wrap ((i:Int)+1)=((i+1:Nat):Int):=by rw[qcy (by omega) (by omega)];rfl
   have h3:(xs.map qas)[i]? = some (qas xs[i]):=by simp[hi]
   have h5:=hg xs[i] (List.getElem_mem hi)
   have h6:p xs[i]=false:=by cases hx:p xs[i]<;>simp[hx] at hq ⊢
   generalize xs[i]=a at *
   unfold qil
   simp -implicitDefEqProofs only[ev_,aOp,opd,qaa,qaB,qaA,qad,qab,qaS,qaC,ren,renC,qa9,qbq,↓reduceIte,reduceCtorEq,Nat.reduceEqDiff,Nat.reduceAdd,qaZ,qap,hd,h1,h2,h3,h5,h6,reduceCtorEq])
  (by
   intro i hi r hq
   have h1:((i:Int)<xs.length):=by omega
   have h3:(xs.map qas)[i]? = some (qas xs[i]):=by simp[hi]
   have h5:=hg xs[i] (List.getElem_mem hi)
   have h6:p xs[i]=true:=by cases hx:p xs[i]<;>simp[hx] at hq ⊢
   have h7:i=r:=by simpa[h6] using hq
   subst h7
   generalize xs[i]=a at *
   unfold qil
   simp -implicitDefEqProofs only[ev_,aOp,opd,qaa,qaB,qaA,qad,qab,qaS,gcE,qaC,ren,renC,qa9,qbq,↓reduceIte,reduceCtorEq,Nat.reduceEqDiff,Nat.reduceAdd,qaZ,hd,h1,h3,h5,h6,reduceCtorEq])
  (by
   have h0:¬ ((xs.length:Int)<xs.length):=by omega
   unfold qil
   simp -implicitDefEqProofs only[ev_,aOp,opd,qaa,qaB,qaA,qab,gcE,qaC,ren,renC,qa9,qbq,↓reduceIte,reduceCtorEq,Nat.reduceEqDiff,hd,h0,reduceCtorEq])
 simp only[Int.natCast_zero] at hloop
 unfold fn266 qB8
 cases hq:qaE (fun i a=>if p a=true then some i else none) xs 0<;>simp only[hq,qbh] at hloop<;>simp -implicitDefEqProofs only[ev_,aOp,opd,qaa,qbd,qan,qac,qae,qaj,qaC,ren,renC,qa9,qbq,↓reduceIte,reduceCtorEq,Nat.reduceEqDiff,Int.reduceNeg,qak,qap,hd,hloop,hq]
theorem qBn {L:Lib} (hL:Plain L) (hf:L.fns 264=some fn264) (hfi:L.fns 266=some fn266) (f:AVal) (hd:qaH f=true) (hk:∃ g a c,f=.func g a c) (p:CAlt→Bool) (xs:List CAlt) (hl:xs.length<2 ^ 30)
  (hg:∀ a∈xs,∀ h:Heap,(match f with | .func g u c=>qc8 L.pure (call L) g (u++.agg [.int .i64 a.tag,.list (a.binds.map qav) none]::c) h | _=>none)=some (.val (.bool (p a)),h)) (h:Heap) :
  pcall L 264 [.list (xs.map qas) none,f] h=some (.val (.bool (xs.any p)),h):=by
 have hp:=hL.pure
 have hi:=qBC hL hfi f hd hk p xs hl hg
 obtain⟨g,u,c,rfl⟩:=hk
 refine qaX hL hf rfl ?_ h
 have ha:=qxr p xs
 unfold fn264
 cases hq:xs.any p<;>rw[hq] at ha<;>simp -implicitDefEqProofs only[ev_,aOp,opd,qaa,qaB,qaA,qab,qan,qac,qae,qaj,↓reduceIte,reduceCtorEq,Nat.reduceEqDiff,ge_iff_le,qak,qap,hd,hi,qal L hp,hp,ha]
def qhX (op:Int) (as:List CAlt) (i:Nat) (a:CAlt):Bool :=
 (as.take i).any (fun b=>b.tag==a.tag) || decide (a.tag < -1) || (op==7 && a.tag == -1 && (decide ((i:Int)<as.length-1) || decide ((0:Int)<a.binds.length))) ||
 (op==13 && (((i:Int)==0) != (a.tag == -1))) || (op==13 && ((a.binds.length:Int) != min ((i:Int)+1) 2))
def qhh (op:Int) (as:List CAlt) (kids:Nat):Bool :=
 (qaE (fun i a=>if qhX op as i a=true then some () else none) as 0).isNone && ((kids:Int)==1+(as.length:Int)) && (op==7 || decide ((0:Int)<as.length))
theorem qwL (c:CAlt) {L:Lib} (hL:Plain L) (hf:L.fns 265=some fn265) (a:CAlt) (h:Heap) :
  pcall L 265 [.agg [.int .i64 a.tag,.list (a.binds.map qav) none],.vptr [.int .i64 c.tag,.list (c.binds.map qav) none] 0] h=some (.val (.bool (a.tag==c.tag)),h):=by
 refine qaX hL hf rfl ?_ h
 unfold fn265
 simp -implicitDefEqProofs only[ev_,aOp,opd,qaa,qaB,qaA,qab,qag,qai,qan,qac,qae,qaj,↓reduceIte,Nat.reduceEqDiff,qak]
section
variable {L:Lib} (hL:Plain L)
include hL
theorem qsq (h265:L.fns 265=some fn265) (h264:L.fns 264=some fn264) (h266:L.fns 266=some fn266) (op n:Int) (binds kids:List Int) (as:List CAlt) (hl:as.length<2 ^ 30) (i:Nat) (hi:i<as.length) :
  qbc L.pure (call L) 1 [1,7,8,9] [1,2] qcX ⟨kt [1,7,8,9] [.ptr (some (0,0)),.list (as.map qas) none,.int .i64 as.length,.int .i64 i],[.box [.int .i64 op,.int .i64 n,.list (binds.map qav) none,.list (kids.map qav) none,.list (as.map qas) none]]⟩ =
  some (if qhX op as i as[i]=true then (.ret,⟨kt [1,2] [.ptr (some (0,0)),.bool false],[.box [.int .i64 op,.int .i64 n,.list (binds.map qav) none,.list (kids.map qav) none,.list (as.map qas) none]]⟩) else
   (.normal,⟨kt [1,7,8,9] [.ptr (some (0,0)),.list (as.map qas) none,.int .i64 as.length,.int .i64 ((i+1:Nat):Int)],[.box [.int .i64 op,.int .i64 n,.list (binds.map qav) none,.list (kids.map qav) none,.list (as.map qas) none]]⟩)):=by
 have hp:=hL.pure
 obtain⟨h1,h2,h3⟩:=qaN qas as hl i hi
 have h4:(i:Int)≤as.length:=by omega
 have h5:(as.map qas).take i=(as.take i).map qas:=by rw[List.map_take]
 have hcon:=qBn hL h264 h266 (.func 265 [] [.vptr [.int .i64 as[i].tag,.list (as[i].binds.map qav) none] 0]) (by simp only[qaH,qax,qah,Bool.and_self]) ⟨_,_,_,rfl⟩
  (fun b=>b.tag==as[i].tag) (as.take i) (by simp;omega)
  (by
   intro a ha h
   have:=qwL as[i] hL h265 a h
   dsimp only
   simp -implicitDefEqProofs only[ev_,↓reduceIte,qah,this,qal L hp,hp])
 have h6:IntKind.i64.wrap ((as.length:Int)-1)=(as.length:Int)-1:=qcy (by omega) (by omega)
 unfold qhX
 generalize ha:as[i]=a at *
 generalize (as.take i).any (fun b=>b.tag==a.tag)=again at *
 cases again with
 | true =>
   unfold qcX
   simp -implicitDefEqProofs only[ev_,aOp,opd,qaa,qay,qaB,qaA,qad,qab,qaf,qag,qaT,qaS,qai,leaf,qat,gcE,qaC,ren,renC,qa9,qbq,↓reduceIte,reduceCtorEq,Nat.reduceEqDiff,Nat.reduceAdd,Nat.reduceLT,Nat.reduceLeDiff,Int.reduceToNat,Int.reduceNeg,frz,frzC,qlY,qdo,qdQ,qaZ,qah,qap,qdF,Int.le_refl,h1,h2,h3,h4,h5,hcon,qal L hp,hp]
 | false =>
   by_cases hlt:a.tag < -1
   ·unfold qcX
    simp -implicitDefEqProofs only[ev_,aOp,opd,qaa,qay,qaB,qaA,qad,qab,qaf,qag,qaT,qaS,qai,leaf,qat,gcE,qaC,ren,renC,qa9,qbq,↓reduceIte,reduceCtorEq,Nat.reduceEqDiff,Nat.reduceAdd,Nat.reduceLT,Nat.reduceLeDiff,Int.reduceToNat,Int.reduceNeg,frz,frzC,qlY,qdo,qdQ,qaZ,qah,qap,qdF,Int.le_refl,h1,h2,h3,h4,h5,hcon,qal L hp,hp,hlt]
   ·cases h7:op==7 with
    | true =>
      have h13:(op==13)=false:=by
       have:op=7:=by simpa using h7
       subst this;rfl
      cases hm:a.tag == -1 with
      | true =>
        by_cases hq:(i:Int)<as.length-1
        ·unfold qcX
         simp -implicitDefEqProofs only[ev_,aOp,opd,qaa,qay,qaB,qbd,qaA,qad,qab,qaf,qag,qaT,qaS,qai,leaf,qat,gcE,qaC,ren,renC,qa9,qbq,↓reduceIte,reduceCtorEq,Nat.reduceEqDiff,Nat.reduceAdd,Nat.reduceLT,Nat.reduceLeDiff,Int.reduceToNat,Int.reduceNeg,frz,frzC,qlY,qdo,qdQ,qaZ,qah,qap,qdF,Int.le_refl,h1,h2,h3,h4,h5,h6,hcon,qal L hp,hp,hlt,h7,h13,hm,hq]
        ·by_cases hb:(0:Int)<a.binds.length
         ·unfold qcX
          simp -implicitDefEqProofs only[ev_,aOp,opd,qaa,qay,qaB,qbd,qaA,qad,qab,qaf,qag,qaT,qaS,qai,leaf,qat,gcE,qaC,ren,renC,qa9,qbq,↓reduceIte,reduceCtorEq,Nat.reduceEqDiff,Nat.reduceAdd,Nat.reduceLT,Nat.reduceLeDiff,Int.reduceToNat,Int.reduceNeg,gt_iff_lt,frz,frzC,qlY,qdo,qdQ,qaZ,qah,qap,qdF,Int.le_refl,h1,h2,h3,h4,h5,h6,hcon,qal L hp,hp,hlt,h7,h13,hm,hq,hb]
         ·unfold qcX
          simp -implicitDefEqProofs only[ev_,aOp,opd,qaa,qay,qaB,qbd,qaA,qad,qab,qaf,qag,qaT,qaS,qai,leaf,qat,qaC,ren,renC,qa9,qbq,↓reduceIte,reduceCtorEq,Nat.reduceEqDiff,Nat.reduceAdd,Nat.reduceLT,Nat.reduceLeDiff,Int.reduceToNat,Int.reduceNeg,gt_iff_lt,frz,frzC,qlY,qdo,qdQ,qaZ,qah,qap,qdF,Int.le_refl,h1,h2,h3,h4,h5,h6,hcon,qal L hp,hp,hlt,h7,h13,hm,hq,hb]
      | false =>
        unfold qcX
        simp -implicitDefEqProofs only[ev_,aOp,opd,qaa,qay,qaB,qaA,qad,qab,qaf,qag,qaT,qaS,qai,leaf,qat,qaC,ren,renC,qa9,qbq,↓reduceIte,reduceCtorEq,Nat.reduceEqDiff,Nat.reduceAdd,Nat.reduceLT,Nat.reduceLeDiff,Int.reduceToNat,Int.reduceNeg,frz,frzC,qlY,qdo,qdQ,qaZ,qah,qap,qdF,Int.le_refl,h1,h2,h3,h4,h5,h6,hcon,qal L hp,hp,hlt,h7,h13,hm]
    | false =>
      cases h13:op==13 with
      | false =>
        unfold qcX
        simp -implicitDefEqProofs only[ev_,aOp,opd,qaa,qay,qaB,qaA,qad,qab,qaf,qag,qaT,qaS,qai,leaf,qat,qaC,ren,renC,qa9,qbq,↓reduceIte,reduceCtorEq,Nat.reduceEqDiff,Nat.reduceAdd,Nat.reduceLT,Nat.reduceLeDiff,Int.reduceToNat,Int.reduceNeg,frz,frzC,qlY,qdo,qdQ,qaZ,qah,qap,qdF,Int.le_refl,h1,h2,h3,h4,h5,h6,hcon,qal L hp,hp,hlt,h7,h13]
      | true =>
        have h10:qeq false [.int .i64 ((i+1:Nat):Int),.int .i64 2]=some (.int .i64 (min ((i:Int)+1) 2)):=qs6 _ 2
        cases hm:a.tag == -1<;>cases h0:((i:Int)==0)<;>cases hbl:((a.binds.length:Int)==min ((i:Int)+1) 2)<;>unfold qcX <;>
         simp -implicitDefEqProofs only[ev_,aOp,opd,qaa,qay,qaB,qbd,qaA,aEq,qad,qab,qaf,qag,qaT,qaS,qai,leaf,qat,gcE,qaC,ren,renC,qa9,qbq,↓reduceIte,reduceCtorEq,Nat.reduceEqDiff,Nat.reduceAdd,Nat.reduceLT,Nat.reduceLeDiff,Int.reduceToNat,Int.reduceNeg,frz,frzC,qlY,qdo,qdQ,qaZ,qah,qap,qdF,Int.le_refl,h1,h2,h3,h4,h5,h6,hcon,qal L hp,hp,hlt,h7,h13,hm,h0,h10,hbl,bne]
theorem qyS (h265:L.fns 265=some fn265) (h264:L.fns 264=some fn264) (h266:L.fns 266=some fn266) (h258:L.fns 258=some fn258) (op n:Int) (binds kids:List Int) (as:List CAlt) (hl:as.length<2 ^ 30) (h:Heap) :
  pcall L 258 [.agg [.int .i64 op,.int .i64 n,.list (binds.map qav) none,.list (kids.map qav) none,.list (as.map qas) none]] h=some (.val (.bool (qhh op as kids.length)),h):=by
 have hp:=hL.pure
 have hround:=qsq hL h265 h264 h266 op n binds kids as hl
 have hloop:=qb6 (pure:=L.pure) (call:=call L) (b:=1) (keep:=[1,7,8,9]) (fk:=[1,2]) (id:=0) (body:=qcX) as (fun i a=>if qhX op as i a=true then some () else none)
  (fun i=>⟨kt [1,7,8,9] [.ptr (some (0,0)),.list (as.map qas) none,.int .i64 as.length,.int .i64 i],[.box [.int .i64 op,.int .i64 n,.list (binds.map qav) none,.list (kids.map qav) none,.list (as.map qas) none]]⟩)
  ⟨kt [1,2] [.ptr (some (0,0)),.junk],[.box [.int .i64 op,.int .i64 n,.list (binds.map qav) none,.list (kids.map qav) none,.list (as.map qas) none]]⟩
  (fun _=>⟨kt [1,2] [.ptr (some (0,0)),.bool false],[.box [.int .i64 op,.int .i64 n,.list (binds.map qav) none,.list (kids.map qav) none,.list (as.map qas) none]]⟩)
  (by
   intro i hi hq
   rw[hround i hi,if_neg]
   intro hb
   rw[if_pos hb] at hq
   cases hq)
  (by
   intro i hi r hq
   rw[hround i hi,if_pos]
   cases hb:qhX op as i as[i] with
   | true=>rfl
   | false=>rw[hb] at hq;cases hq)
  (by
   have h0:=qaQ as.length
   unfold qcX
   simp -implicitDefEqProofs only[ev_,aOp,opd,qaa,qaB,qaA,qab,gcE,qaC,ren,renC,qa9,qbq,↓reduceIte,Nat.reduceEqDiff,Nat.reduceLT,Nat.reduceLeDiff,Int.reduceNeg,qah,qap,h0])
 simp only[Int.natCast_zero] at hloop
 refine qaX hL h258 rfl ?_ h
 have hw:IntKind.i64.wrap (1+(as.length:Int))=1+(as.length:Int):=qcy (by omega) (by omega)
 unfold qhh
 cases hq:qaE (fun i a=>if qhX op as i a=true then some () else none) as 0 with
 | some r =>
   simp only[hq,qbh] at hloop
   unfold fn258
   simp -implicitDefEqProofs only[ev_,aOp,opd,qaa,qbd,qag,qai,qan,qac,qae,qaj,qaC,ren,renC,qa9,qbq,↓reduceIte,Nat.reduceEqDiff,Nat.reduceLT,Nat.reduceLeDiff,qak,qah,qap,Option.isNone_some,hloop]
 | none =>
   simp only[hq,qbh] at hloop
   cases hk:((kids.length:Int)==1+(as.length:Int)) with
   | false =>
     unfold fn258
     simp -implicitDefEqProofs only[ev_,aOp,opd,qaa,qaB,qbd,qaA,qab,qaf,qag,qai,qan,qac,qae,qaj,qaC,ren,renC,qa9,qbq,↓reduceIte,Nat.reduceEqDiff,Nat.reduceLT,Nat.reduceLeDiff,qak,qah,qap,Option.isNone_none,hloop,hw,hk]
   | true =>
     cases h7:op==7 with
     | true =>
       unfold fn258
       simp -implicitDefEqProofs only[ev_,aOp,opd,qaa,qaB,qbd,qaA,qab,qaf,qag,qai,qan,qac,qae,qaj,qaC,ren,renC,qa9,qbq,↓reduceIte,Nat.reduceEqDiff,Nat.reduceLT,Nat.reduceLeDiff,qak,qah,qap,Option.isNone_none,hloop,hw,hk,h7]
     | false =>
       unfold fn258
       simp -implicitDefEqProofs only[ev_,aOp,opd,qaa,qaB,qbd,qaA,qab,qaf,qag,qai,qan,qac,qae,qaj,qaC,ren,renC,qa9,qbq,↓reduceIte,Nat.reduceEqDiff,Nat.reduceLT,Nat.reduceLeDiff,gt_iff_lt,qak,qah,qap,Option.isNone_none,hloop,hw,hk,h7]
end
end Go.Abs
