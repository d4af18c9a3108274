/-
  PARTS OF A PROOF, joined: an abstract machine for quiet code, its evaluation, and what the seat's functions answer on it. Conditions: none.
-/
import Derived.Test.YtpchghpipgpkfaaDoorCoreE
import Derived.Test.YtpchghpipgpkfaaDoorC
set_option linter.unusedVariables false
set_option linter.unusedSimpArgs false
set_option maxRecDepth 100000
set_option maxHeartbeats 4000000
namespace Go.Abs
def qyI (l:List Int) (n:Int):Int:=(qaI (fun i x=>if (n==x)=true then some (i:Int) else none) l 0).getD (-1)
def qqQ (l:List Int) (n:Int):Bool:=l.any fun x=>x==n
theorem qpe (n:Int):∀ (l:List Int) (k:Nat),(∀ r,qaI (fun i x=>if (n==x)=true then some (i:Int) else none) l k=some r→0≤r)∧(qaI (fun i x=>if (n==x)=true then some (i:Int) else none) l k).isSome=qqQ l n
 | [],k=>⟨fun r h=>by (cases h),rfl⟩
 | x :: xs,k => by
   obtain⟨h1,h2⟩:=qpe n xs (k+1)
   rw[qaI]
   unfold qqQ at h2 ⊢
   rw[List.any_cons]
   by_cases hx:n=x
   ·subst hx
    simp only[beq_self_eq_true,if_true]
    exact⟨fun r h=>by injection h with h;omega,rfl⟩
   ·have e1:(n==x)=false:=by simpa using hx
    have e2:(x==n)=false:=by simpa using fun h=>hx h.symm
    simp only[e1,e2,Bool.false_eq_true,if_false,Bool.false_or]
    exact⟨h1,h2⟩
theorem qui (l:List Int) (n:Int):decide (0≤qyI l n)=qqQ l n:=by
 obtain⟨h1,h2⟩:=qpe n l 0
 unfold qyI
 cases hq:qaI (fun i x=>if (n==x)=true then some (i:Int) else none) l 0 with
 | none =>
   rw[hq] at h2
   rw[← h2]
   rfl
 | some r =>
   rw[hq] at h2
   have:=h1 r hq
   rw[← h2]
   simpa using this
section
variable {L:Lib} (hL:Plain L)
include hL
theorem qdr (hf:L.fns 259=some fn259) (n a b:Int) (h:Heap):pcall L 259 [.int .i64 n,.int .i64 a,.int .i64 b] h=some (.val (.bool (decide (a≤n∧n≤b))),h):=by
 refine qaX hL hf rfl ?_ h
 unfold fn259
 by_cases h1:a≤n
 ·by_cases h2:n≤b
  ·simp -implicitDefEqProofs only[ev_,aOp,opd,qaa,qau,qat,qab,qaf,qan,qac,qae,qaj,↓reduceIte,reduceCtorEq,Nat.reduceEqDiff,ge_iff_le,qak,h1,h2]
  ·simp -implicitDefEqProofs only[ev_,aOp,opd,qaa,qau,qat,qab,qaf,qan,qac,qae,qaj,↓reduceIte,reduceCtorEq,Nat.reduceEqDiff,ge_iff_le,qak,h1,h2]
 ·simp -implicitDefEqProofs only[ev_,aOp,opd,qaa,qau,qat,qab,qaf,qan,qac,qae,qaj,↓reduceIte,reduceCtorEq,Nat.reduceEqDiff,ge_iff_le,qak,h1]
def qil (op:Int):Bool:=op==2 || op==5 || op==12 || op==13
def qim (op:Int):Bool:=op==14 || op==15 || op==16
theorem qoa (hf:L.fns 191=some fn191) (op:Int) (h:Heap):pcall L 191 [.int .i64 op] h=some (.val (.bool (qil op)),h):=by
 refine qaX hL hf rfl ?_ h
 unfold fn191 qil
 cases h1:op==2<;>cases h2:op==5<;>cases h3:op==12<;>cases h4:op==13<;>simp -implicitDefEqProofs only[ev_,aOp,opd,qaa,qau,qat,qab,qaf,qan,qac,qae,qaj,↓reduceIte,reduceCtorEq,Nat.reduceEqDiff,qak,h1,h2,h3,h4]
theorem qoe (hf:L.fns 192=some fn192) (op:Int) (h:Heap):pcall L 192 [.int .i64 op] h=some (.val (.bool (qim op)),h):=by
 refine qaX hL hf rfl ?_ h
 unfold fn192 qim
 cases h1:op==14<;>cases h2:op==15<;>cases h3:op==16<;>simp -implicitDefEqProofs only[ev_,aOp,opd,qaa,qau,qat,qab,qaf,qan,qac,qae,qaj,↓reduceIte,reduceCtorEq,Nat.reduceEqDiff,qak,h1,h2,h3]
theorem quj (hf:L.fns 181=some fn181) (l:List Int) (hl:l.length<2 ^ 30) (n:Int) (h:Heap):pcall L 181 [.list (l.map qaw) none,.int .i64 n] h=some (.val (.int .i64 (qyI l n)),h):=by
 have hp:=hL.pure
 have hloop:qa5 L.pure (call L) 0 [0,1,7,8] [4] 0 qgL ⟨kt [0,1,7,8] [.list (l.map qaw) none,.int .i64 n,.int .i64 l.length,.int .i64 ((0:Nat):Int)],[]⟩ =
   some (qbp (fun r=>⟨kt [4] [.int .i64 r],[]⟩) ⟨kt [4] [.junk],[]⟩ (qaI (fun i x=>if (n==x)=true then some (i:Int) else none) l 0)):=by
  refine qcx l (fun i x=>if (n==x)=true then some (i:Int) else none) (fun i=>⟨kt [0,1,7,8] [.list (l.map qaw) none,.int .i64 n,.int .i64 l.length,.int .i64 i],[]⟩) _ _ ?_ ?_ ?_
  ·intro i hi hq
   obtain⟨h1,h2,h3⟩:=qaN qaw l hl i hi
   have hq:(n==l[i])=false:=by
    cases hx:n==l[i] with
    | false=>rfl
    | true=>simp[hx] at hq
   generalize l[i]=a at *
   unfold qgL
   simp -implicitDefEqProofs only[ev_,aOp,opd,qaa,qau,qat,qad,qab,qag,qav,ren,renC,qa3,qbd,↓reduceIte,reduceCtorEq,Nat.reduceEqDiff,qbg,qai,h1,h2,h3,hq]
  ·intro i hi r hq
   obtain⟨h1,h2,h3⟩:=qaN qaw l hl i hi
   have hx:(n==l[i])=true:=by
    cases hx:n==l[i] with
    | true=>rfl
    | false=>simp[hx] at hq
   rw[if_pos hx] at hq
   injection hq with hq
   subst hq
   generalize l[i]=a at *
   unfold qgL
   simp -implicitDefEqProofs only[ev_,aOp,opd,qaa,qau,qat,qad,qab,qag,gcE,qav,ren,renC,qa3,qbd,↓reduceIte,reduceCtorEq,Nat.reduceEqDiff,qbg,h1,h2,h3,hx]
  ·have h0:=qaO l.length
   unfold qgL
   simp -implicitDefEqProofs only[ev_,aOp,opd,qaa,qau,qat,qab,gcE,qav,ren,renC,qa3,qbd,↓reduceIte,reduceCtorEq,Nat.reduceEqDiff,h0]
 simp only[Int.natCast_zero] at hloop
 unfold qyI
 refine qaX hL hf rfl ?_ h
 unfold fn181
 cases hq:qaI (fun i x=>if (n==x)=true then some (i:Int) else none) l 0<;>simp only[hq,qbp] at hloop<;>simp -implicitDefEqProofs only[ev_,aOp,opd,qaa,qbc,qan,qac,qae,qaj,qav,ren,renC,qa3,qbd,↓reduceIte,reduceCtorEq,Nat.reduceEqDiff,Int.reduceNeg,qak,qai,hloop]
theorem qi5 (h181:L.fns 181=some fn181) (hf:L.fns 151=some fn151) (l:List Int) (hl:l.length<2 ^ 30) (n:Int) (h:Heap):pcall L 151 [.list (l.map qaw) none,.int .i64 n] h=some (.val (.bool (qqQ l n)),h):=by
 have hp:=hL.pure
 have h1:=quj hL h181 l hl n
 have h2:=qui l n
 refine qaX hL hf rfl ?_ h
 unfold fn151
 simp -implicitDefEqProofs only[ev_,aOp,opd,qaa,qau,qat,qab,qan,qac,qae,qaj,↓reduceIte,reduceCtorEq,Nat.reduceEqDiff,ge_iff_le,qar,qak,qai,h1,h2,qam L hp,hp]
end
def qyH {α:Type} (p:α→Bool) (xs:List α):Int:=match qaI (fun i a=>if p a=true then some i else none) xs 0 with | some i=>(i:Nat) | none => -1
theorem qgG {α:Type} (p:α→Bool):∀ (xs:List α) (k:Nat),(qaI (fun i a=>if p a=true then some i else none) xs k).isSome=xs.any p
 | [],k=>rfl
 | x :: xs,k => by
   rw[qaI,List.any_cons]
   cases hp:p x
   ·simp only[Bool.false_eq_true,if_false,Bool.false_or]
    exact qgG p xs (k+1)
   ·rfl
theorem quh {α:Type} (p:α→Bool) (xs:List α):decide (0≤qyH p xs)=xs.any p:=by
 rw[← qgG p xs 0]
 unfold qyH
 cases qaI (fun i a=>if p a=true then some i else none) xs 0<;>simp
theorem qqt (x y:Int):qdR false [.int .i64 x,.int .i64 y]=some (.int .i64 (min x y)):=by
 simp only[qdR,if_true,Bool.false_eq_true,if_false]
 congr 2
 split<;>omega
theorem qfR (x y:Int):qdR true [.int .i64 x,.int .i64 y]=some (.int .i64 (max x y)):=by
 simp only[qdR,if_true]
 congr 2
 split<;>omega
theorem qyc {L:Lib} (hL:Plain L) (hf:L.fns 266=some fn266) (f:AVal) (hd:qay f=true) (hk:∃ g a c,f=.func g a c) (p:CAlt→Bool) (xs:List CAlt) (hl:xs.length<2 ^ 30)
  (hg:∀ a∈xs,∀ h:Heap,(match f with | .func g u c=>qcw L.pure (call L) g (u++.agg [.int .i64 a.tag,.list (a.binds.map qaw) none]::c) h | _=>none)=some (.val (.bool (p a)),h)) (h:Heap) :
  pcall L 266 [.list (xs.map qax) none,f] h=some (.val (.int .i64 (qyH p xs)),h):=by
 have hp:=hL.pure
 obtain⟨g,u,c,rfl⟩:=hk
 dsimp only at hg
 refine qaX hL hf rfl ?_ h
 have hloop:=qcx (pure:=L.pure) (call:=call L) (b:=0) (keep:=[0,1,7,8]) (fk:=[4]) (id:=0) (body:=qgP) xs (fun i a=>if p a=true then some i else none)
  (fun i=>⟨kt [0,1,7,8] [.list (xs.map qax) none,.func g u c,.int .i64 xs.length,.int .i64 i],[]⟩) ⟨kt [4] [.junk],[]⟩ (fun i=>⟨kt [4] [.int .i64 i],[]⟩)
  (by
   intro i hi hq
   have h1:((i:Int)<xs.length):=by omega
   have h2:IntKind.i64.wrap ((i:Int)+1)=((i+1:Nat):Int):=by rw[qbN (by omega) (by omega)];rfl
   have h3:(xs.map qax)[i]? = some (qax xs[i]):=by simp[hi]
   have h5:=hg xs[i] (List.getElem_mem hi)
   have h6:p xs[i]=false:=by cases hx:p xs[i]<;>simp[hx] at hq ⊢
   generalize xs[i]=a at *
   unfold qgP
   simp -implicitDefEqProofs only[ev_,aOp,opd,qaa,qau,qat,qad,qab,qaL,qav,ren,renC,qa3,qbd,↓reduceIte,reduceCtorEq,Nat.reduceEqDiff,Nat.reduceAdd,qaU,qao,hd,h1,h2,h3,h5,h6,reduceCtorEq])
  (by
   intro i hi r hq
   have h1:((i:Int)<xs.length):=by omega
   have h3:(xs.map qax)[i]? = some (qax xs[i]):=by simp[hi]
   have h5:=hg xs[i] (List.getElem_mem hi)
   have h6:p xs[i]=true:=by cases hx:p xs[i]<;>simp[hx] at hq ⊢
   have h7:i=r:=by simpa[h6] using hq
   subst h7
   generalize xs[i]=a at *
   unfold qgP
   simp -implicitDefEqProofs only[ev_,aOp,opd,qaa,qau,qat,qad,qab,qaL,gcE,qav,ren,renC,qa3,qbd,↓reduceIte,reduceCtorEq,Nat.reduceEqDiff,Nat.reduceAdd,qaU,hd,h1,h3,h5,h6,reduceCtorEq])
  (by
   have h0:¬ ((xs.length:Int)<xs.length):=by omega
   unfold qgP
   simp -implicitDefEqProofs only[ev_,aOp,opd,qaa,qau,qat,qab,gcE,qav,ren,renC,qa3,qbd,↓reduceIte,reduceCtorEq,Nat.reduceEqDiff,hd,h0,reduceCtorEq])
 simp only[Int.natCast_zero] at hloop
 unfold fn266 qyH
 cases hq:qaI (fun i a=>if p a=true then some i else none) xs 0<;>simp only[hq,qbp] at hloop<;>simp -implicitDefEqProofs only[ev_,aOp,opd,qaa,qbc,qan,qac,qae,qaj,qav,ren,renC,qa3,qbd,↓reduceIte,reduceCtorEq,Nat.reduceEqDiff,Int.reduceNeg,qak,qao,hd,hloop,hq]
theorem qxZ {L:Lib} (hL:Plain L) (hf:L.fns 264=some fn264) (hfi:L.fns 266=some fn266) (f:AVal) (hd:qay f=true) (hk:∃ g a c,f=.func g a c) (p:CAlt→Bool) (xs:List CAlt) (hl:xs.length<2 ^ 30)
  (hg:∀ a∈xs,∀ h:Heap,(match f with | .func g u c=>qcw L.pure (call L) g (u++.agg [.int .i64 a.tag,.list (a.binds.map qaw) none]::c) h | _=>none)=some (.val (.bool (p a)),h)) (h:Heap) :
  pcall L 264 [.list (xs.map qax) none,f] h=some (.val (.bool (xs.any p)),h):=by
 have hp:=hL.pure
 have hi:=qyc hL hfi f hd hk p xs hl hg
 obtain⟨g,u,c,rfl⟩:=hk
 refine qaX hL hf rfl ?_ h
 have ha:=quh p xs
 unfold fn264
 cases hq:xs.any p<;>rw[hq] at ha<;>simp -implicitDefEqProofs only[ev_,aOp,opd,qaa,qau,qat,qab,qan,qac,qae,qaj,↓reduceIte,reduceCtorEq,Nat.reduceEqDiff,ge_iff_le,qak,qao,hd,hi,qam L hp,hp,ha]
def qkq (op:Int) (as:List CAlt) (i:Nat) (a:CAlt):Bool :=
 (as.take i).any (fun b=>b.tag==a.tag) || decide (a.tag < -1) || (op==7 && a.tag == -1 && (decide ((i:Int)<as.length-1) || decide ((0:Int)<a.binds.length))) ||
 (op==13 && (((i:Int)==0) != (a.tag == -1))) || (op==13 && ((a.binds.length:Int) != min ((i:Int)+1) 2))
def qiP (op:Int) (as:List CAlt) (kids:Nat):Bool :=
 (qaI (fun i a=>if qkq op as i a=true then some () else none) as 0).isNone && ((kids:Int)==1+(as.length:Int)) && (op==7 || decide ((0:Int)<as.length))
theorem qts (c:CAlt) {L:Lib} (hL:Plain L) (hf:L.fns 265=some fn265) (a:CAlt) (h:Heap) :
  pcall L 265 [.agg [.int .i64 a.tag,.list (a.binds.map qaw) none],.vptr [.int .i64 c.tag,.list (c.binds.map qaw) none] 0] h=some (.val (.bool (a.tag==c.tag)),h):=by
 refine qaX hL hf rfl ?_ h
 unfold fn265
 simp -implicitDefEqProofs only[ev_,aOp,opd,qaa,qau,qat,qab,qag,qah,qan,qac,qae,qaj,↓reduceIte,Nat.reduceEqDiff,qak]
section
variable {L:Lib} (hL:Plain L)
include hL
theorem qpP (h265:L.fns 265=some fn265) (h264:L.fns 264=some fn264) (h266:L.fns 266=some fn266) (op n:Int) (binds kids:List Int) (as:List CAlt) (hl:as.length<2 ^ 30) (i:Nat) (hi:i<as.length) :
  qa4 L.pure (call L) 1 [1,7,8,9] [1,2] qck ⟨kt [1,7,8,9] [.ptr (some (0,0)),.list (as.map qax) none,.int .i64 as.length,.int .i64 i],[.box [.int .i64 op,.int .i64 n,.list (binds.map qaw) none,.list (kids.map qaw) none,.list (as.map qax) none]]⟩ =
  some (if qkq op as i as[i]=true then (.ret,⟨kt [1,2] [.ptr (some (0,0)),.bool false],[.box [.int .i64 op,.int .i64 n,.list (binds.map qaw) none,.list (kids.map qaw) none,.list (as.map qax) none]]⟩) else
   (.normal,⟨kt [1,7,8,9] [.ptr (some (0,0)),.list (as.map qax) none,.int .i64 as.length,.int .i64 ((i+1:Nat):Int)],[.box [.int .i64 op,.int .i64 n,.list (binds.map qaw) none,.list (kids.map qaw) none,.list (as.map qax) none]]⟩)):=by
 have hp:=hL.pure
 obtain⟨h1,h2,h3⟩:=qaN qax as hl i hi
 have h4:(i:Int)≤as.length:=by omega
 have h5:(as.map qax).take i=(as.take i).map qax:=by rw[List.map_take]
 have hcon:=qxZ hL h264 h266 (.func 265 [] [.vptr [.int .i64 as[i].tag,.list (as[i].binds.map qaw) none] 0]) (by simp only[qay,qas,qai,Bool.and_self]) ⟨_,_,_,rfl⟩
  (fun b=>b.tag==as[i].tag) (as.take i) (by simp;omega)
  (by
   intro a ha h
   have:=qts as[i] hL h265 a h
   dsimp only
   simp -implicitDefEqProofs only[ev_,↓reduceIte,qai,this,qam L hp,hp])
 have h6:IntKind.i64.wrap ((as.length:Int)-1)=(as.length:Int)-1:=qbN (by omega) (by omega)
 unfold qkq
 generalize ha:as[i]=a at *
 generalize (as.take i).any (fun b=>b.tag==a.tag)=again at *
 cases again with
 | true =>
   unfold qck
   simp -implicitDefEqProofs only[ev_,aOp,opd,qaa,qaq,qau,qat,qad,qab,qaf,qag,qaK,qaL,qah,leaf,qap,gcE,qav,ren,renC,qa3,qbd,↓reduceIte,reduceCtorEq,Nat.reduceEqDiff,Nat.reduceAdd,Nat.reduceLT,Nat.reduceLeDiff,Int.reduceToNat,Int.reduceNeg,frz,frzC,qj5,qdf,qdm,qaU,qai,qao,qcY,Int.le_refl,h1,h2,h3,h4,h5,hcon,qam L hp,hp]
 | false =>
   by_cases hlt:a.tag < -1
   ·unfold qck
    simp -implicitDefEqProofs only[ev_,aOp,opd,qaa,qaq,qau,qat,qad,qab,qaf,qag,qaK,qaL,qah,leaf,qap,gcE,qav,ren,renC,qa3,qbd,↓reduceIte,reduceCtorEq,Nat.reduceEqDiff,Nat.reduceAdd,Nat.reduceLT,Nat.reduceLeDiff,Int.reduceToNat,Int.reduceNeg,frz,frzC,qj5,qdf,qdm,qaU,qai,qao,qcY,Int.le_refl,h1,h2,h3,h4,h5,hcon,qam L hp,hp,hlt]
   ·cases h7:op==7 with
    | true =>
      have h13:(op==13)=false:=by
       have:op=7:=by simpa using h7
       subst this;rfl
      cases hm:a.tag == -1 with
      | true =>
        by_cases hq:(i:Int)<as.length-1
        ·unfold qck
         simp -implicitDefEqProofs only[ev_,aOp,opd,qaa,qaq,qau,qbc,qat,qad,qab,qaf,qag,qaK,qaL,qah,leaf,qap,gcE,qav,ren,renC,qa3,qbd,↓reduceIte,reduceCtorEq,Nat.reduceEqDiff,Nat.reduceAdd,Nat.reduceLT,Nat.reduceLeDiff,Int.reduceToNat,Int.reduceNeg,frz,frzC,qj5,qdf,qdm,qaU,qai,qao,qcY,Int.le_refl,h1,h2,h3,h4,h5,h6,hcon,qam L hp,hp,hlt,h7,h13,hm,hq]
        ·by_cases hb:(0:Int)<a.binds.length
         ·unfold qck
          simp -implicitDefEqProofs only[ev_,aOp,opd,qaa,qaq,qau,qbc,qat,qad,qab,qaf,qag,qaK,qaL,qah,leaf,qap,gcE,qav,ren,renC,qa3,qbd,↓reduceIte,reduceCtorEq,Nat.reduceEqDiff,Nat.reduceAdd,Nat.reduceLT,Nat.reduceLeDiff,Int.reduceToNat,Int.reduceNeg,gt_iff_lt,frz,frzC,qj5,qdf,qdm,qaU,qai,qao,qcY,Int.le_refl,h1,h2,h3,h4,h5,h6,hcon,qam L hp,hp,hlt,h7,h13,hm,hq,hb]
         ·unfold qck
          simp -implicitDefEqProofs only[ev_,aOp,opd,qaa,qaq,qau,qbc,qat,qad,qab,qaf,qag,qaK,qaL,qah,leaf,qap,qav,ren,renC,qa3,qbd,↓reduceIte,reduceCtorEq,Nat.reduceEqDiff,Nat.reduceAdd,Nat.reduceLT,Nat.reduceLeDiff,Int.reduceToNat,Int.reduceNeg,gt_iff_lt,frz,frzC,qj5,qdf,qdm,qaU,qai,qao,qcY,Int.le_refl,h1,h2,h3,h4,h5,h6,hcon,qam L hp,hp,hlt,h7,h13,hm,hq,hb]
      | false =>
        unfold qck
        simp -implicitDefEqProofs only[ev_,aOp,opd,qaa,qaq,qau,qat,qad,qab,qaf,qag,qaK,qaL,qah,leaf,qap,qav,ren,renC,qa3,qbd,↓reduceIte,reduceCtorEq,Nat.reduceEqDiff,Nat.reduceAdd,Nat.reduceLT,Nat.reduceLeDiff,Int.reduceToNat,Int.reduceNeg,frz,frzC,qj5,qdf,qdm,qaU,qai,qao,qcY,Int.le_refl,h1,h2,h3,h4,h5,h6,hcon,qam L hp,hp,hlt,h7,h13,hm]
    | false =>
      cases h13:op==13 with
      | false =>
        unfold qck
        simp -implicitDefEqProofs only[ev_,aOp,opd,qaa,qaq,qau,qat,qad,qab,qaf,qag,qaK,qaL,qah,leaf,qap,qav,ren,renC,qa3,qbd,↓reduceIte,reduceCtorEq,Nat.reduceEqDiff,Nat.reduceAdd,Nat.reduceLT,Nat.reduceLeDiff,Int.reduceToNat,Int.reduceNeg,frz,frzC,qj5,qdf,qdm,qaU,qai,qao,qcY,Int.le_refl,h1,h2,h3,h4,h5,h6,hcon,qam L hp,hp,hlt,h7,h13]
      | true =>
        have h10:qdR false [.int .i64 ((i+1:Nat):Int),.int .i64 2]=some (.int .i64 (min ((i:Int)+1) 2)):=qqt _ 2
        cases hm:a.tag == -1<;>cases h0:((i:Int)==0)<;>cases hbl:((a.binds.length:Int)==min ((i:Int)+1) 2)<;>unfold qck <;>
         simp -implicitDefEqProofs only[ev_,aOp,opd,qaa,qaq,qau,qbc,qat,aEq,qad,qab,qaf,qag,qaK,qaL,qah,leaf,qap,gcE,qav,ren,renC,qa3,qbd,↓reduceIte,reduceCtorEq,Nat.reduceEqDiff,Nat.reduceAdd,Nat.reduceLT,Nat.reduceLeDiff,Int.reduceToNat,Int.reduceNeg,frz,frzC,qj5,qdf,qdm,qaU,qai,qao,qcY,Int.le_refl,h1,h2,h3,h4,h5,h6,hcon,qam L hp,hp,hlt,h7,h13,hm,h0,h10,hbl,bne]
theorem qvz (h265:L.fns 265=some fn265) (h264:L.fns 264=some fn264) (h266:L.fns 266=some fn266) (h258:L.fns 258=some fn258) (op n:Int) (binds kids:List Int) (as:List CAlt) (hl:as.length<2 ^ 30) (h:Heap) :
  pcall L 258 [.agg [.int .i64 op,.int .i64 n,.list (binds.map qaw) none,.list (kids.map qaw) none,.list (as.map qax) none]] h=some (.val (.bool (qiP op as kids.length)),h):=by
 have hp:=hL.pure
 have hround:=qpP hL h265 h264 h266 op n binds kids as hl
 have hloop:=qcx (pure:=L.pure) (call:=call L) (b:=1) (keep:=[1,7,8,9]) (fk:=[1,2]) (id:=0) (body:=qck) as (fun i a=>if qkq op as i a=true then some () else none)
  (fun i=>⟨kt [1,7,8,9] [.ptr (some (0,0)),.list (as.map qax) none,.int .i64 as.length,.int .i64 i],[.box [.int .i64 op,.int .i64 n,.list (binds.map qaw) none,.list (kids.map qaw) none,.list (as.map qax) none]]⟩)
  ⟨kt [1,2] [.ptr (some (0,0)),.junk],[.box [.int .i64 op,.int .i64 n,.list (binds.map qaw) none,.list (kids.map qaw) none,.list (as.map qax) none]]⟩
  (fun _=>⟨kt [1,2] [.ptr (some (0,0)),.bool false],[.box [.int .i64 op,.int .i64 n,.list (binds.map qaw) none,.list (kids.map qaw) none,.list (as.map qax) none]]⟩)
  (by
   intro i hi hq
   rw[hround i hi,if_neg]
   intro hb
   rw[if_pos hb] at hq
   cases hq)
  (by
   intro i hi r hq
   rw[hround i hi,if_pos]
   cases hb:qkq op as i as[i] with
   | true=>rfl
   | false=>rw[hb] at hq;cases hq)
  (by
   have h0:=qaO as.length
   unfold qck
   simp -implicitDefEqProofs only[ev_,aOp,opd,qaa,qau,qat,qab,gcE,qav,ren,renC,qa3,qbd,↓reduceIte,Nat.reduceEqDiff,Nat.reduceLT,Nat.reduceLeDiff,Int.reduceNeg,qai,qao,h0])
 simp only[Int.natCast_zero] at hloop
 refine qaX hL h258 rfl ?_ h
 have hw:IntKind.i64.wrap (1+(as.length:Int))=1+(as.length:Int):=qbN (by omega) (by omega)
 unfold qiP
 cases hq:qaI (fun i a=>if qkq op as i a=true then some () else none) as 0 with
 | some r =>
   simp only[hq,qbp] at hloop
   unfold fn258
   simp -implicitDefEqProofs only[ev_,aOp,opd,qaa,qbc,qag,qah,qan,qac,qae,qaj,qav,ren,renC,qa3,qbd,↓reduceIte,Nat.reduceEqDiff,Nat.reduceLT,Nat.reduceLeDiff,qak,qai,qao,Option.isNone_some,hloop]
 | none =>
   simp only[hq,qbp] at hloop
   cases hk:((kids.length:Int)==1+(as.length:Int)) with
   | false =>
     unfold fn258
     simp -implicitDefEqProofs only[ev_,aOp,opd,qaa,qau,qbc,qat,qab,qaf,qag,qah,qan,qac,qae,qaj,qav,ren,renC,qa3,qbd,↓reduceIte,Nat.reduceEqDiff,Nat.reduceLT,Nat.reduceLeDiff,qak,qai,qao,Option.isNone_none,hloop,hw,hk]
   | true =>
     cases h7:op==7 with
     | true =>
       unfold fn258
       simp -implicitDefEqProofs only[ev_,aOp,opd,qaa,qau,qbc,qat,qab,qaf,qag,qah,qan,qac,qae,qaj,qav,ren,renC,qa3,qbd,↓reduceIte,Nat.reduceEqDiff,Nat.reduceLT,Nat.reduceLeDiff,qak,qai,qao,Option.isNone_none,hloop,hw,hk,h7]
     | false =>
       unfold fn258
       simp -implicitDefEqProofs only[ev_,aOp,opd,qaa,qau,qbc,qat,qab,qaf,qag,qah,qan,qac,qae,qaj,qav,ren,renC,qa3,qbd,↓reduceIte,Nat.reduceEqDiff,Nat.reduceLT,Nat.reduceLeDiff,gt_iff_lt,qak,qai,qao,Option.isNone_none,hloop,hw,hk,h7]
end
end Go.Abs
