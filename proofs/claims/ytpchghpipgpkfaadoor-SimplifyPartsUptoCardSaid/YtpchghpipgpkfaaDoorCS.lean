/-
  PARTS OF A PROOF, joined: an abstract machine for quiet code, its evaluation, and what the seat's functions answer on it. Conditions: none.
-/
import Derived.Test.YtpchghpipgpkfaaDoorCQ
set_option linter.unusedVariables false
set_option linter.unusedSimpArgs false
set_option maxRecDepth 100000
set_option maxHeartbeats 4000000
namespace Go.Abs
section
end
def qg2 (b:List Int) (i:Nat) (x:Int):Bool := !(x==b.getD i 0)
theorem qv8 {a b:List Int} (h:a.length=b.length):(qaI (fun i x=>if qg2 b i x=true then some () else none) a 0).isSome = !decide (a=b):=by
 rw[Bool.eq_iff_iff,qlr (qg2 b) a 0]
 simp only[Bool.not_eq_true',decide_eq_false_iff_not]
 constructor
 ·rintro ⟨i,hi,hn⟩ e
  subst e
  unfold qg2 at hn
  rw[Nat.zero_add,List.getD_eq_getElem?_getD,List.getElem?_eq_getElem hi] at hn
  simp at hn
 ·intro hne
  refine Classical.byContradiction fun hx=>hne ?_
  refine List.ext_getElem h fun i h1 h2=>?_
  refine Classical.byContradiction fun hd=>hx ⟨i,h1,?_⟩
  unfold qg2
  rw[Nat.zero_add,List.getD_eq_getElem?_getD,List.getElem?_eq_getElem h2]
  simpa using hd
section
variable {L:Lib} (hL:Plain L)
include hL
theorem qi7 (hf:L.fns 163=some fn163) (a b:List Int) (ha:a.length<2 ^ 30) (h:Heap):pcall L 163 [.list (a.map qaw) none,.list (b.map qaw) none] h=some (.val (.bool (decide (a=b))),h):=by
 refine qaX hL hf rfl ?_ h
 by_cases hl:a.length=b.length
 ·have hs:=qv8 hl
  have hround:∀ (i:Nat) (hi:i<a.length),qa4 L.pure (call L) 0 [0,1,12,13] [4] qgJ ⟨kt [0,1,12,13] [.list (a.map qaw) none,.list (b.map qaw) none,.int .i64 a.length,.int .i64 i],[]⟩ =
    some (if qg2 b i a[i]=true then (.ret,⟨kt [4] [.bool false],[]⟩) else (.normal,⟨kt [0,1,12,13] [.list (a.map qaw) none,.list (b.map qaw) none,.int .i64 a.length,.int .i64 ((i+1:Nat):Int)],[]⟩)):=by
   intro i hi
   obtain⟨h1,h2,h3⟩:=qaN qaw a ha i hi
   have h4:(b.map qaw)[i]? = some (qaw (b.getD i 0)):=by
    have:i<b.length:=by omega
    simp[this]
   unfold qg2
   generalize a[i]=x at *
   generalize b.getD i 0=y at *
   cases hq:(x==y)<;>unfold qgJ<;>simp -implicitDefEqProofs only[ev_,aOp,opd,qaa,qau,qat,qad,qab,qaf,qag,gcE,qav,ren,renC,qa3,qbd,qaC,↓reduceIte,reduceCtorEq,Nat.reduceEqDiff,qbg,qai,h1,h2,h3,h4,hq,bne]
  have hloop:=qcx (pure:=L.pure) (call:=call L) (b:=0) (keep:=[0,1,12,13]) (fk:=[4]) (id:=0) (body:=qgJ) a (fun i x=>if qg2 b i x=true then some () else none)
   (fun i=>⟨kt [0,1,12,13] [.list (a.map qaw) none,.list (b.map qaw) none,.int .i64 a.length,.int .i64 i],[]⟩) ⟨kt [4] [.junk],[]⟩ (fun _=>⟨kt [4] [.bool false],[]⟩)
   (by
    intro i hi hq
    rw[hround i hi,if_neg]
    intro hx
    simp[hx] at hq)
   (by
    intro i hi r hq
    cases hx:qg2 b i a[i] with
    | false=>simp[hx] at hq
    | true=>rw[hround i hi,if_pos hx])
   (by
    have h0:=qaO a.length
    unfold qgJ
    simp -implicitDefEqProofs only[ev_,aOp,opd,qaa,qau,qat,qab,gcE,qav,ren,renC,qa3,qbd,↓reduceIte,reduceCtorEq,Nat.reduceEqDiff,h0])
  simp only[Int.natCast_zero] at hloop
  have hne:((a.length:Int)==(b.length:Int))=true:=by rw[hl];simp
  cases hq:qaI (fun i x=>if qg2 b i x=true then some () else none) a 0 with
  | none =>
    rw[hq] at hs hloop
    have hd:decide (a=b)=true:=by simpa using hs.symm
    rw[hd]
    simp only[qbp] at hloop
    unfold fn163
    simp -implicitDefEqProofs only[ev_,aOp,opd,qaa,qau,qbc,qat,qab,qan,qac,qae,qaj,qav,ren,renC,qa3,qbd,↓reduceIte,reduceCtorEq,Nat.reduceEqDiff,qak,qai,hne,hloop,bne]
  | some u =>
    rw[hq] at hs hloop
    have hd:decide (a=b)=false:=by simpa using hs.symm
    rw[hd]
    simp only[qbp] at hloop
    unfold fn163
    simp -implicitDefEqProofs only[ev_,aOp,opd,qaa,qau,qbc,qat,qab,qan,qac,qae,qaj,qav,ren,renC,qa3,qbd,↓reduceIte,reduceCtorEq,Nat.reduceEqDiff,qak,qai,hne,hloop,bne]
 ·have hne:((a.length:Int)==(b.length:Int))=false:=by simp;omega
  have hd:decide (a=b)=false:=by simpa using fun e=>hl (by rw[e])
  rw[hd]
  unfold fn163
  simp -implicitDefEqProofs only[ev_,aOp,opd,qaa,qau,qbc,qat,qab,qan,qac,qae,qaj,↓reduceIte,reduceCtorEq,Nat.reduceEqDiff,qak,hne,bne]
end
section
def qyo (l l':List Int) (m:IM Int):IM Int:=(l.zip l').foldl (fun m p=>qpB p.1 p.2 m) m
end
section
end
end Go.Abs
