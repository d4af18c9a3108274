/-
  PARTS OF A PROOF, joined: an abstract machine for quiet code, its evaluation, and what the seat's functions answer on it. Conditions: none.
-/
import Derived.Test.YtpchghpipgpkfaaDoorCoreE
import Derived.Test.YtpchghpipgpkfaaDoorC
set_option linter.unusedVariables false
set_option linter.unusedSimpArgs false
set_option maxRecDepth 100000
set_option maxHeartbeats 4000000
namespace Go.Abs
def qzK (l:List Int) (n:Int):Int:=(qaI (fun i x=>if (n==x)=true then some (i:Int) else none) l 0).getD (-1)
def qrH (l:List Int) (n:Int):Bool:=l.any fun x=>x==n
theorem qqK (n:Int):∀ (l:List Int) (k:Nat),(∀ r,qaI (fun i x=>if (n==x)=true then some (i:Int) else none) l k=some r→0≤r)∧(qaI (fun i x=>if (n==x)=true then some (i:Int) else none) l k).isSome=qrH l n
 | [],k=>⟨fun r h=>by (cases h),rfl⟩
 | x :: xs,k => by
   obtain⟨h1,h2⟩:=qqK n xs (k+1)
   rw[qaI]
   unfold qrH at h2 ⊢
   rw[List.any_cons]
   by_cases hx:n=x
   ·subst hx
    simp only[beq_self_eq_true,if_true]
    exact⟨fun r h=>by injection h with h;omega,rfl⟩
   ·have e1:(n==x)=false:=by simpa using hx
    have e2:(x==n)=false:=by simpa using fun h=>hx h.symm
    simp only[e1,e2,Bool.false_eq_true,if_false,Bool.false_or]
    exact⟨h1,h2⟩
theorem qvw (l:List Int) (n:Int):decide (0≤qzK l n)=qrH l n:=by
 obtain⟨h1,h2⟩:=qqK n l 0
 unfold qzK
 cases hq:qaI (fun i x=>if (n==x)=true then some (i:Int) else none) l 0 with
 | none =>
   rw[hq] at h2
   rw[← h2]
   rfl
 | some r =>
   rw[hq] at h2
   have:=h1 r hq
   rw[← h2]
   simpa using this
section
variable {L:Lib} (hL:Plain L)
include hL
theorem qdL (hf:L.fns 259=some fn259) (n a b:Int) (h:Heap):pcall L 259 [.int .i64 n,.int .i64 a,.int .i64 b] h=some (.val (.bool (decide (a≤n∧n≤b))),h):=by
 refine qa5 hL hf rfl ?_ h
 unfold fn259
 by_cases h1:a≤n
 ·by_cases h2:n≤b
  ·simp -implicitDefEqProofs only[ev_,aOp,opd,qaa,qaA,qaz,qab,qae,qap,qac,qaf,qaj,↓reduceIte,reduceCtorEq,Nat.reduceEqDiff,ge_iff_le,qal,h1,h2]
  ·simp -implicitDefEqProofs only[ev_,aOp,opd,qaa,qaA,qaz,qab,qae,qap,qac,qaf,qaj,↓reduceIte,reduceCtorEq,Nat.reduceEqDiff,ge_iff_le,qal,h1,h2]
 ·simp -implicitDefEqProofs only[ev_,aOp,opd,qaa,qaA,qaz,qab,qae,qap,qac,qaf,qaj,↓reduceIte,reduceCtorEq,Nat.reduceEqDiff,ge_iff_le,qal,h1]
def qiN (op:Int):Bool:=op==2 || op==5 || op==12 || op==13
def qiP (op:Int):Bool:=op==14 || op==15 || op==16
theorem qpF (hf:L.fns 191=some fn191) (op:Int) (h:Heap):pcall L 191 [.int .i64 op] h=some (.val (.bool (qiN op)),h):=by
 refine qa5 hL hf rfl ?_ h
 unfold fn191 qiN
 cases h1:op==2<;>cases h2:op==5<;>cases h3:op==12<;>cases h4:op==13<;>simp -implicitDefEqProofs only[ev_,aOp,opd,qaa,qaA,qaz,qab,qae,qap,qac,qaf,qaj,↓reduceIte,reduceCtorEq,Nat.reduceEqDiff,qal,h1,h2,h3,h4]
theorem qpI (hf:L.fns 192=some fn192) (op:Int) (h:Heap):pcall L 192 [.int .i64 op] h=some (.val (.bool (qiP op)),h):=by
 refine qa5 hL hf rfl ?_ h
 unfold fn192 qiP
 cases h1:op==14<;>cases h2:op==15<;>cases h3:op==16<;>simp -implicitDefEqProofs only[ev_,aOp,opd,qaa,qaA,qaz,qab,qae,qap,qac,qaf,qaj,↓reduceIte,reduceCtorEq,Nat.reduceEqDiff,qal,h1,h2,h3]
theorem qvx (hf:L.fns 181=some fn181) (l:List Int) (hl:l.length<2 ^ 30) (n:Int) (h:Heap):pcall L 181 [.list (l.map qau) none,.int .i64 n] h=some (.val (.int .i64 (qzK l n)),h):=by
 have hp:=hL.pure
 have hloop:qbd L.pure (call L) 0 [0,1,7,8] [4] 0 qha ⟨kt [0,1,7,8] [.list (l.map qau) none,.int .i64 n,.int .i64 l.length,.int .i64 ((0:Nat):Int)],[]⟩ =
   some (qbx (fun r=>⟨kt [4] [.int .i64 r],[]⟩) ⟨kt [4] [.junk],[]⟩ (qaI (fun i x=>if (n==x)=true then some (i:Int) else none) l 0)):=by
  refine qcO l (fun i x=>if (n==x)=true then some (i:Int) else none) (fun i=>⟨kt [0,1,7,8] [.list (l.map qau) none,.int .i64 n,.int .i64 l.length,.int .i64 i],[]⟩) _ _ ?_ ?_ ?_
  ·intro i hi hq
   obtain⟨h1,h2,h3⟩:=qaN qau l hl i hi
   have hq:(n==l[i])=false:=by
    cases hx:n==l[i] with
    | false=>rfl
    | true=>simp[hx] at hq
   generalize l[i]=a at *
   unfold qha
   simp -implicitDefEqProofs only[ev_,aOp,opd,qaa,qaA,qaz,qad,qab,qag,qav,ren,renC,qaW,qbc,↓reduceIte,reduceCtorEq,Nat.reduceEqDiff,qa9,qah,h1,h2,h3,hq]
  ·intro i hi r hq
   obtain⟨h1,h2,h3⟩:=qaN qau l hl i hi
   have hx:(n==l[i])=true:=by
    cases hx:n==l[i] with
    | true=>rfl
    | false=>simp[hx] at hq
   rw[if_pos hx] at hq
   injection hq with hq
   subst hq
   generalize l[i]=a at *
   unfold qha
   simp -implicitDefEqProofs only[ev_,aOp,opd,qaa,qaA,qaz,qad,qab,qag,gcE,qav,ren,renC,qaW,qbc,↓reduceIte,reduceCtorEq,Nat.reduceEqDiff,qa9,h1,h2,h3,hx]
  ·have h0:=qaO l.length
   unfold qha
   simp -implicitDefEqProofs only[ev_,aOp,opd,qaa,qaA,qaz,qab,gcE,qav,ren,renC,qaW,qbc,↓reduceIte,reduceCtorEq,Nat.reduceEqDiff,h0]
 simp only[Int.natCast_zero] at hloop
 unfold qzK
 refine qa5 hL hf rfl ?_ h
 unfold fn181
 cases hq:qaI (fun i x=>if (n==x)=true then some (i:Int) else none) l 0<;>simp only[hq,qbx] at hloop<;>simp -implicitDefEqProofs only[ev_,aOp,opd,qaa,qbq,qap,qac,qaf,qaj,qav,ren,renC,qaW,qbc,↓reduceIte,reduceCtorEq,Nat.reduceEqDiff,Int.reduceNeg,qal,qah,hloop]
theorem qjB (h181:L.fns 181=some fn181) (hf:L.fns 151=some fn151) (l:List Int) (hl:l.length<2 ^ 30) (n:Int) (h:Heap):pcall L 151 [.list (l.map qau) none,.int .i64 n] h=some (.val (.bool (qrH l n)),h):=by
 have hp:=hL.pure
 have h1:=qvx hL h181 l hl n
 have h2:=qvw l n
 refine qa5 hL hf rfl ?_ h
 unfold fn151
 simp -implicitDefEqProofs only[ev_,aOp,opd,qaa,qaA,qaz,qab,qap,qac,qaf,qaj,↓reduceIte,reduceCtorEq,Nat.reduceEqDiff,ge_iff_le,qay,qal,qah,h1,h2,qan L hp,hp]
end
def qzJ {α:Type} (p:α→Bool) (xs:List α):Int:=match qaI (fun i a=>if p a=true then some i else none) xs 0 with | some i=>(i:Nat) | none => -1
theorem qeU {α:Type} (p:α→Bool):∀ (xs:List α) (k:Nat),(qaI (fun i a=>if p a=true then some i else none) xs k).isSome=xs.any p
 | [],k=>rfl
 | x :: xs,k => by
   rw[qaI,List.any_cons]
   cases hp:p x
   ·simp only[Bool.false_eq_true,if_false,Bool.false_or]
    exact qeU p xs (k+1)
   ·rfl
theorem qvv {α:Type} (p:α→Bool) (xs:List α):decide (0≤qzJ p xs)=xs.any p:=by
 rw[← qeU p xs 0]
 unfold qzJ
 cases qaI (fun i a=>if p a=true then some i else none) xs 0<;>simp
theorem qrS (x y:Int):qfl false [.int .i64 x,.int .i64 y]=some (.int .i64 (min x y)):=by
 simp only[qfl,if_true,Bool.false_eq_true,if_false]
 congr 2
 split<;>omega
theorem qgi (x y:Int):qfl true [.int .i64 x,.int .i64 y]=some (.int .i64 (max x y)):=by
 simp only[qfl,if_true]
 congr 2
 split<;>omega
theorem qzd {L:Lib} (hL:Plain L) (hf:L.fns 266=some fn266) (f:AVal) (hd:qax f=true) (hk:∃ g a c,f=.func g a c) (p:CAlt→Bool) (xs:List CAlt) (hl:xs.length<2 ^ 30)
  (hg:∀ a∈xs,∀ h:Heap,(match f with | .func g u c=>qb8 L.pure (call L) g (u++.agg [.int .i64 a.tag,.list (a.binds.map qau) none]::c) h | _=>none)=some (.val (.bool (p a)),h)) (h:Heap) :
  pcall L 266 [.list (xs.map qar) none,f] h=some (.val (.int .i64 (qzJ p xs)),h):=by
 have hp:=hL.pure
 obtain⟨g,u,c,rfl⟩:=hk
 dsimp only at hg
 refine qa5 hL hf rfl ?_ h
 have hloop:=qcO (pure:=L.pure) (call:=call L) (b:=0) (keep:=[0,1,7,8]) (fk:=[4]) (id:=0) (body:=qhe) xs (fun i a=>if p a=true then some i else none)
  (fun i=>⟨kt [0,1,7,8] [.list (xs.map qar) none,.func g u c,.int .i64 xs.length,.int .i64 i],[]⟩) ⟨kt [4] [.junk],[]⟩ (fun i=>⟨kt [4] [.int .i64 i],[]⟩)
  (by
   intro i hi hq
   have h1:((i:Int)<xs.length):=by omega
   have h2:IntKind.i64.wrap ((i:Int)+1)=((i+1:Nat):Int):=by rw[qcl (by omega) (by omega)];rfl
   have h3:(xs.map qar)[i]? = some (qar xs[i]):=by simp[hi]
   have h5:=hg xs[i] (List.getElem_mem hi)
   have h6:p xs[i]=false:=by cases hx:p xs[i]<;>simp[hx] at hq ⊢
   generalize xs[i]=a at *
   unfold qhe
   simp -implicitDefEqProofs only[ev_,aOp,opd,qaa,qaA,qaz,qad,qab,qaK,qav,ren,renC,qaW,qbc,↓reduceIte,reduceCtorEq,Nat.reduceEqDiff,Nat.reduceAdd,qaQ,qak,hd,h1,h2,h3,h5,h6,reduceCtorEq])
  (by
   intro i hi r hq
   have h1:((i:Int)<xs.length):=by omega
   have h3:(xs.map qar)[i]? = some (qar xs[i]):=by simp[hi]
   have h5:=hg xs[i] (List.getElem_mem hi)
   have h6:p xs[i]=true:=by cases hx:p xs[i]<;>simp[hx] at hq ⊢
   have h7:i=r:=by simpa[h6] using hq
   subst h7
   generalize xs[i]=a at *
   unfold qhe
   simp -implicitDefEqProofs only[ev_,aOp,opd,qaa,qaA,qaz,qad,qab,qaK,gcE,qav,ren,renC,qaW,qbc,↓reduceIte,reduceCtorEq,Nat.reduceEqDiff,Nat.reduceAdd,qaQ,hd,h1,h3,h5,h6,reduceCtorEq])
  (by
   have h0:¬ ((xs.length:Int)<xs.length):=by omega
   unfold qhe
   simp -implicitDefEqProofs only[ev_,aOp,opd,qaa,qaA,qaz,qab,gcE,qav,ren,renC,qaW,qbc,↓reduceIte,reduceCtorEq,Nat.reduceEqDiff,hd,h0,reduceCtorEq])
 simp only[Int.natCast_zero] at hloop
 unfold fn266 qzJ
 cases hq:qaI (fun i a=>if p a=true then some i else none) xs 0<;>simp only[hq,qbx] at hloop<;>simp -implicitDefEqProofs only[ev_,aOp,opd,qaa,qbq,qap,qac,qaf,qaj,qav,ren,renC,qaW,qbc,↓reduceIte,reduceCtorEq,Nat.reduceEqDiff,Int.reduceNeg,qal,qak,hd,hloop,hq]
theorem qy0 {L:Lib} (hL:Plain L) (hf:L.fns 264=some fn264) (hfi:L.fns 266=some fn266) (f:AVal) (hd:qax f=true) (hk:∃ g a c,f=.func g a c) (p:CAlt→Bool) (xs:List CAlt) (hl:xs.length<2 ^ 30)
  (hg:∀ a∈xs,∀ h:Heap,(match f with | .func g u c=>qb8 L.pure (call L) g (u++.agg [.int .i64 a.tag,.list (a.binds.map qau) none]::c) h | _=>none)=some (.val (.bool (p a)),h)) (h:Heap) :
  pcall L 264 [.list (xs.map qar) none,f] h=some (.val (.bool (xs.any p)),h):=by
 have hp:=hL.pure
 have hi:=qzd hL hfi f hd hk p xs hl hg
 obtain⟨g,u,c,rfl⟩:=hk
 refine qa5 hL hf rfl ?_ h
 have ha:=qvv p xs
 unfold fn264
 cases hq:xs.any p<;>rw[hq] at ha<;>simp -implicitDefEqProofs only[ev_,aOp,opd,qaa,qaA,qaz,qab,qap,qac,qaf,qaj,↓reduceIte,reduceCtorEq,Nat.reduceEqDiff,ge_iff_le,qal,qak,hd,hi,qan L hp,hp,ha]
def qk8 (op:Int) (as:List CAlt) (i:Nat) (a:CAlt):Bool :=
 (as.take i).any (fun b=>b.tag==a.tag) || decide (a.tag < -1) || (op==7 && a.tag == -1 && (decide ((i:Int)<as.length-1) || decide ((0:Int)<a.binds.length))) ||
 (op==13 && (((i:Int)==0) != (a.tag == -1))) || (op==13 && ((a.binds.length:Int) != min ((i:Int)+1) 2))
def qji (op:Int) (as:List CAlt) (kids:Nat):Bool :=
 (qaI (fun i a=>if qk8 op as i a=true then some () else none) as 0).isNone && ((kids:Int)==1+(as.length:Int)) && (op==7 || decide ((0:Int)<as.length))
theorem quD (c:CAlt) {L:Lib} (hL:Plain L) (hf:L.fns 265=some fn265) (a:CAlt) (h:Heap) :
  pcall L 265 [.agg [.int .i64 a.tag,.list (a.binds.map qau) none],.vptr [.int .i64 c.tag,.list (c.binds.map qau) none] 0] h=some (.val (.bool (a.tag==c.tag)),h):=by
 refine qa5 hL hf rfl ?_ h
 unfold fn265
 simp -implicitDefEqProofs only[ev_,aOp,opd,qaa,qaA,qaz,qab,qag,qai,qap,qac,qaf,qaj,↓reduceIte,Nat.reduceEqDiff,qal]
section
variable {L:Lib} (hL:Plain L)
include hL
theorem qrp (h265:L.fns 265=some fn265) (h264:L.fns 264=some fn264) (h266:L.fns 266=some fn266) (op n:Int) (binds kids:List Int) (as:List CAlt) (hl:as.length<2 ^ 30) (i:Nat) (hi:i<as.length) :
  qa8 L.pure (call L) 1 [1,7,8,9] [1,2] qcE ⟨kt [1,7,8,9] [.ptr (some (0,0)),.list (as.map qar) none,.int .i64 as.length,.int .i64 i],[.box [.int .i64 op,.int .i64 n,.list (binds.map qau) none,.list (kids.map qau) none,.list (as.map qar) none]]⟩ =
  some (if qk8 op as i as[i]=true then (.ret,⟨kt [1,2] [.ptr (some (0,0)),.bool false],[.box [.int .i64 op,.int .i64 n,.list (binds.map qau) none,.list (kids.map qau) none,.list (as.map qar) none]]⟩) else
   (.normal,⟨kt [1,7,8,9] [.ptr (some (0,0)),.list (as.map qar) none,.int .i64 as.length,.int .i64 ((i+1:Nat):Int)],[.box [.int .i64 op,.int .i64 n,.list (binds.map qau) none,.list (kids.map qau) none,.list (as.map qar) none]]⟩)):=by
 have hp:=hL.pure
 obtain⟨h1,h2,h3⟩:=qaN qar as hl i hi
 have h4:(i:Int)≤as.length:=by omega
 have h5:(as.map qar).take i=(as.take i).map qar:=by rw[List.map_take]
 have hcon:=qy0 hL h264 h266 (.func 265 [] [.vptr [.int .i64 as[i].tag,.list (as[i].binds.map qau) none] 0]) (by simp only[qax,qas,qah,Bool.and_self]) ⟨_,_,_,rfl⟩
  (fun b=>b.tag==as[i].tag) (as.take i) (by simp;omega)
  (by
   intro a ha h
   have:=quD as[i] hL h265 a h
   dsimp only
   simp -implicitDefEqProofs only[ev_,↓reduceIte,qah,this,qan L hp,hp])
 have h6:IntKind.i64.wrap ((as.length:Int)-1)=(as.length:Int)-1:=qcl (by omega) (by omega)
 unfold qk8
 generalize ha:as[i]=a at *
 generalize (as.take i).any (fun b=>b.tag==a.tag)=again at *
 cases again with
 | true =>
   unfold qcE
   simp -implicitDefEqProofs only[ev_,aOp,opd,qaa,qaq,qaA,qaz,qad,qab,qae,qag,qaL,qaK,qai,leaf,qao,gcE,qav,ren,renC,qaW,qbc,↓reduceIte,reduceCtorEq,Nat.reduceEqDiff,Nat.reduceAdd,Nat.reduceLT,Nat.reduceLeDiff,Int.reduceToNat,Int.reduceNeg,frz,frzC,qiF,qdk,qdu,qaQ,qah,qak,qcQ,Int.le_refl,h1,h2,h3,h4,h5,hcon,qan L hp,hp]
 | false =>
   by_cases hlt:a.tag < -1
   ·unfold qcE
    simp -implicitDefEqProofs only[ev_,aOp,opd,qaa,qaq,qaA,qaz,qad,qab,qae,qag,qaL,qaK,qai,leaf,qao,gcE,qav,ren,renC,qaW,qbc,↓reduceIte,reduceCtorEq,Nat.reduceEqDiff,Nat.reduceAdd,Nat.reduceLT,Nat.reduceLeDiff,Int.reduceToNat,Int.reduceNeg,frz,frzC,qiF,qdk,qdu,qaQ,qah,qak,qcQ,Int.le_refl,h1,h2,h3,h4,h5,hcon,qan L hp,hp,hlt]
   ·cases h7:op==7 with
    | true =>
      have h13:(op==13)=false:=by
       have:op=7:=by simpa using h7
       subst this;rfl
      cases hm:a.tag == -1 with
      | true =>
        by_cases hq:(i:Int)<as.length-1
        ·unfold qcE
         simp -implicitDefEqProofs only[ev_,aOp,opd,qaa,qaq,qaA,qbq,qaz,qad,qab,qae,qag,qaL,qaK,qai,leaf,qao,gcE,qav,ren,renC,qaW,qbc,↓reduceIte,reduceCtorEq,Nat.reduceEqDiff,Nat.reduceAdd,Nat.reduceLT,Nat.reduceLeDiff,Int.reduceToNat,Int.reduceNeg,frz,frzC,qiF,qdk,qdu,qaQ,qah,qak,qcQ,Int.le_refl,h1,h2,h3,h4,h5,h6,hcon,qan L hp,hp,hlt,h7,h13,hm,hq]
        ·by_cases hb:(0:Int)<a.binds.length
         ·unfold qcE
          simp -implicitDefEqProofs only[ev_,aOp,opd,qaa,qaq,qaA,qbq,qaz,qad,qab,qae,qag,qaL,qaK,qai,leaf,qao,gcE,qav,ren,renC,qaW,qbc,↓reduceIte,reduceCtorEq,Nat.reduceEqDiff,Nat.reduceAdd,Nat.reduceLT,Nat.reduceLeDiff,Int.reduceToNat,Int.reduceNeg,gt_iff_lt,frz,frzC,qiF,qdk,qdu,qaQ,qah,qak,qcQ,Int.le_refl,h1,h2,h3,h4,h5,h6,hcon,qan L hp,hp,hlt,h7,h13,hm,hq,hb]
         ·unfold qcE
          simp -implicitDefEqProofs only[ev_,aOp,opd,qaa,qaq,qaA,qbq,qaz,qad,qab,qae,qag,qaL,qaK,qai,leaf,qao,qav,ren,renC,qaW,qbc,↓reduceIte,reduceCtorEq,Nat.reduceEqDiff,Nat.reduceAdd,Nat.reduceLT,Nat.reduceLeDiff,Int.reduceToNat,Int.reduceNeg,gt_iff_lt,frz,frzC,qiF,qdk,qdu,qaQ,qah,qak,qcQ,Int.le_refl,h1,h2,h3,h4,h5,h6,hcon,qan L hp,hp,hlt,h7,h13,hm,hq,hb]
      | false =>
        unfold qcE
        simp -implicitDefEqProofs only[ev_,aOp,opd,qaa,qaq,qaA,qaz,qad,qab,qae,qag,qaL,qaK,qai,leaf,qao,qav,ren,renC,qaW,qbc,↓reduceIte,reduceCtorEq,Nat.reduceEqDiff,Nat.reduceAdd,Nat.reduceLT,Nat.reduceLeDiff,Int.reduceToNat,Int.reduceNeg,frz,frzC,qiF,qdk,qdu,qaQ,qah,qak,qcQ,Int.le_refl,h1,h2,h3,h4,h5,h6,hcon,qan L hp,hp,hlt,h7,h13,hm]
    | false =>
      cases h13:op==13 with
      | false =>
        unfold qcE
        simp -implicitDefEqProofs only[ev_,aOp,opd,qaa,qaq,qaA,qaz,qad,qab,qae,qag,qaL,qaK,qai,leaf,qao,qav,ren,renC,qaW,qbc,↓reduceIte,reduceCtorEq,Nat.reduceEqDiff,Nat.reduceAdd,Nat.reduceLT,Nat.reduceLeDiff,Int.reduceToNat,Int.reduceNeg,frz,frzC,qiF,qdk,qdu,qaQ,qah,qak,qcQ,Int.le_refl,h1,h2,h3,h4,h5,h6,hcon,qan L hp,hp,hlt,h7,h13]
      | true =>
        have h10:qfl false [.int .i64 ((i+1:Nat):Int),.int .i64 2]=some (.int .i64 (min ((i:Int)+1) 2)):=qrS _ 2
        cases hm:a.tag == -1<;>cases h0:((i:Int)==0)<;>cases hbl:((a.binds.length:Int)==min ((i:Int)+1) 2)<;>unfold qcE <;>
         simp -implicitDefEqProofs only[ev_,aOp,opd,qaa,qaq,qaA,qbq,qaz,aEq,qad,qab,qae,qag,qaL,qaK,qai,leaf,qao,gcE,qav,ren,renC,qaW,qbc,↓reduceIte,reduceCtorEq,Nat.reduceEqDiff,Nat.reduceAdd,Nat.reduceLT,Nat.reduceLeDiff,Int.reduceToNat,Int.reduceNeg,frz,frzC,qiF,qdk,qdu,qaQ,qah,qak,qcQ,Int.le_refl,h1,h2,h3,h4,h5,h6,hcon,qan L hp,hp,hlt,h7,h13,hm,h0,h10,hbl,bne]
theorem qwz (h265:L.fns 265=some fn265) (h264:L.fns 264=some fn264) (h266:L.fns 266=some fn266) (h258:L.fns 258=some fn258) (op n:Int) (binds kids:List Int) (as:List CAlt) (hl:as.length<2 ^ 30) (h:Heap) :
  pcall L 258 [.agg [.int .i64 op,.int .i64 n,.list (binds.map qau) none,.list (kids.map qau) none,.list (as.map qar) none]] h=some (.val (.bool (qji op as kids.length)),h):=by
 have hp:=hL.pure
 have hround:=qrp hL h265 h264 h266 op n binds kids as hl
 have hloop:=qcO (pure:=L.pure) (call:=call L) (b:=1) (keep:=[1,7,8,9]) (fk:=[1,2]) (id:=0) (body:=qcE) as (fun i a=>if qk8 op as i a=true then some () else none)
  (fun i=>⟨kt [1,7,8,9] [.ptr (some (0,0)),.list (as.map qar) none,.int .i64 as.length,.int .i64 i],[.box [.int .i64 op,.int .i64 n,.list (binds.map qau) none,.list (kids.map qau) none,.list (as.map qar) none]]⟩)
  ⟨kt [1,2] [.ptr (some (0,0)),.junk],[.box [.int .i64 op,.int .i64 n,.list (binds.map qau) none,.list (kids.map qau) none,.list (as.map qar) none]]⟩
  (fun _=>⟨kt [1,2] [.ptr (some (0,0)),.bool false],[.box [.int .i64 op,.int .i64 n,.list (binds.map qau) none,.list (kids.map qau) none,.list (as.map qar) none]]⟩)
  (by
   intro i hi hq
   rw[hround i hi,if_neg]
   intro hb
   rw[if_pos hb] at hq
   cases hq)
  (by
   intro i hi r hq
   rw[hround i hi,if_pos]
   cases hb:qk8 op as i as[i] with
   | true=>rfl
   | false=>rw[hb] at hq;cases hq)
  (by
   have h0:=qaO as.length
   unfold qcE
   simp -implicitDefEqProofs only[ev_,aOp,opd,qaa,qaA,qaz,qab,gcE,qav,ren,renC,qaW,qbc,↓reduceIte,Nat.reduceEqDiff,Nat.reduceLT,Nat.reduceLeDiff,Int.reduceNeg,qah,qak,h0])
 simp only[Int.natCast_zero] at hloop
 refine qa5 hL h258 rfl ?_ h
 have hw:IntKind.i64.wrap (1+(as.length:Int))=1+(as.length:Int):=qcl (by omega) (by omega)
 unfold qji
 cases hq:qaI (fun i a=>if qk8 op as i a=true then some () else none) as 0 with
 | some r =>
   simp only[hq,qbx] at hloop
   unfold fn258
   simp -implicitDefEqProofs only[ev_,aOp,opd,qaa,qbq,qag,qai,qap,qac,qaf,qaj,qav,ren,renC,qaW,qbc,↓reduceIte,Nat.reduceEqDiff,Nat.reduceLT,Nat.reduceLeDiff,qal,qah,qak,Option.isNone_some,hloop]
 | none =>
   simp only[hq,qbx] at hloop
   cases hk:((kids.length:Int)==1+(as.length:Int)) with
   | false =>
     unfold fn258
     simp -implicitDefEqProofs only[ev_,aOp,opd,qaa,qaA,qbq,qaz,qab,qae,qag,qai,qap,qac,qaf,qaj,qav,ren,renC,qaW,qbc,↓reduceIte,Nat.reduceEqDiff,Nat.reduceLT,Nat.reduceLeDiff,qal,qah,qak,Option.isNone_none,hloop,hw,hk]
   | true =>
     cases h7:op==7 with
     | true =>
       unfold fn258
       simp -implicitDefEqProofs only[ev_,aOp,opd,qaa,qaA,qbq,qaz,qab,qae,qag,qai,qap,qac,qaf,qaj,qav,ren,renC,qaW,qbc,↓reduceIte,Nat.reduceEqDiff,Nat.reduceLT,Nat.reduceLeDiff,qal,qah,qak,Option.isNone_none,hloop,hw,hk,h7]
     | false =>
       unfold fn258
       simp -implicitDefEqProofs only[ev_,aOp,opd,qaa,qaA,qbq,qaz,qab,qae,qag,qai,qap,qac,qaf,qaj,qav,ren,renC,qaW,qbc,↓reduceIte,Nat.reduceEqDiff,Nat.reduceLT,Nat.reduceLeDiff,gt_iff_lt,qal,qah,qak,Option.isNone_none,hloop,hw,hk,h7]
end
end Go.Abs
