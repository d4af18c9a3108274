/-
  PARTS OF A PROOF, joined: an abstract machine for quiet code, its evaluation, and what the seat's functions answer on it. Conditions: none.
-/
import Derived.Test.YtbmognfolkhkpaaDoorCQ
set_option linter.unusedVariables false
set_option linter.unusedSimpArgs false
set_option maxRecDepth 100000
set_option maxHeartbeats 4000000
namespace Go.Abs
section
variable {L:Lib} (hL:Plain L)
include hL
end
end Go.Abs
set_option linter.unusedVariables false
set_option linter.unusedSimpArgs false
set_option maxRecDepth 100000
set_option maxHeartbeats 4000000
namespace Go.Abs
def qiq (b:List Int) (i:Nat) (x:Int):Bool := !(x==b.getD i 0)
theorem qvg {a b:List Int} (h:a.length=b.length):(qbC (fun i x=>if qiq b i x=true then some () else none) a 0).isSome = !decide (a=b):=by
 rw[Bool.eq_iff_iff,qmv (qiq b) a 0]
 simp only[Bool.not_eq_true',decide_eq_false_iff_not]
 constructor
 ·rintro ⟨i,hi,hn⟩ e
  subst e
  unfold qiq at hn
  rw[Nat.zero_add,List.getD_eq_getElem?_getD,List.getElem?_eq_getElem hi] at hn
  simp at hn
 ·intro hne
  refine Classical.byContradiction fun hx=>hne ?_
  refine List.ext_getElem h fun i h1 h2=>?_
  refine Classical.byContradiction fun hd=>hx ⟨i,h1,?_⟩
  unfold qiq
  rw[Nat.zero_add,List.getD_eq_getElem?_getD,List.getElem?_eq_getElem h2]
  simpa using hd
section
variable {L:Lib} (hL:Plain L)
include hL
theorem qrC (hf:L.fns 139=some fn139) (a b:List Int) (ha:a.length<2 ^ 30) (h:Heap):pcall L 139 [.list (a.map qa4) none,.list (b.map qa4) none] h=some (.val (.bool (decide (a=b))),h):=by
 refine qbL hL hf rfl ?_ h
 by_cases hl:a.length=b.length
 ·have hs:=qvg hl
  have hround:∀ (i:Nat) (hi:i<a.length),qb8 L.pure (call L) 0 [0,1,12,13] [4] qh3 ⟨kt [0,1,12,13] [.list (a.map qa4) none,.list (b.map qa4) none,.int .i64 a.length,.int .i64 i],[]⟩ =
    some (if qiq b i a[i]=true then (.ret,⟨kt [4] [.bool false],[]⟩) else (.normal,⟨kt [0,1,12,13] [.list (a.map qa4) none,.list (b.map qa4) none,.int .i64 a.length,.int .i64 ((i+1:Nat):Int)],[]⟩)):=by
   intro i hi
   obtain⟨h1,h2,h3⟩:=qbF qa4 a ha i hi
   have h4:(b.map qa4)[i]? = some (qa4 (b.getD i 0)):=by
    have:i<b.length:=by omega
    simp[this]
   unfold qiq
   generalize a[i]=x at *
   generalize b.getD i 0=y at *
   cases hq:(x==y)<;>unfold qh3<;>simp -implicitDefEqProofs only[qam,qad,qaL,qae,qab,qai,qar,qac,qah,aOp,opd,qak,qaB,qag,qba,qa8,qan,qaj,qax,qay,qaJ,gcE,qaX,qaf,qaF,qas,qaG,qa5,ren,renC,qbb,qbT,qb2,qa2,qaT,qaN,qbc,qaa,qbR,qaq,Option.getD_none,List.map_cons,List.map_nil,List.flatMap_cons,List.flatMap_nil,List.length_cons,List.length_nil,List.nil_append,List.append_nil,List.getElem?_nil,List.getElem?_cons_zero,List.take_nil,↓reduceIte,Bool.not_true,Bool.not_false,Bool.false_eq_true,decide_true,decide_false,Nat.le_refl,reduceCtorEq,Nat.zero_add,Nat.reduceEqDiff,Int.toNat_natCast,Int.natCast_nonneg,qaz,qaC,qaM,qa0,qbM,qaA,h1,h2,h3,h4,hq,bne]
  have hloop:=qdK (pure:=L.pure) (call:=call L) (b:=0) (keep:=[0,1,12,13]) (fk:=[4]) (id:=0) (body:=qh3) a (fun i x=>if qiq b i x=true then some () else none)
   (fun i=>⟨kt [0,1,12,13] [.list (a.map qa4) none,.list (b.map qa4) none,.int .i64 a.length,.int .i64 i],[]⟩) ⟨kt [4] [.junk],[]⟩ (fun _=>⟨kt [4] [.bool false],[]⟩)
   (by
    intro i hi hq
    rw[hround i hi,if_neg]
    intro hx
    simp[hx] at hq)
   (by
    intro i hi r hq
    cases hx:qiq b i a[i] with
    | false=>simp[hx] at hq
    | true=>rw[hround i hi,if_pos hx])
   (by
    have h0:=qbG a.length
    unfold qh3
    simp -implicitDefEqProofs only[qad,qae,qab,qbj,qac,qah,aOp,opd,qak,qaB,qag,qba,qa8,qaj,gcE,qaX,qaf,qaF,qas,qaG,qa5,ren,renC,qbb,qbT,qb2,qbS,Option.getD_none,List.map_cons,List.map_nil,List.flatMap_cons,List.flatMap_nil,List.length_nil,List.append_nil,List.getElem?_nil,List.take_nil,↓reduceIte,Bool.false_eq_true,decide_false,Nat.le_refl,reduceCtorEq,Nat.reduceEqDiff,qaz,qa0,h0])
  simp only[Int.natCast_zero] at hloop
  have hne:((a.length:Int)==(b.length:Int))=true:=by rw[hl];simp
  cases hq:qbC (fun i x=>if qiq b i x=true then some () else none) a 0 with
  | none =>
    rw[hq] at hs hloop
    have hd:decide (a=b)=true:=by simpa using hs.symm
    rw[hd]
    simp only[qcw] at hloop
    unfold fn139
    simp -implicitDefEqProofs only[qam,qad,qae,qab,qar,qac,qah,aOp,opd,qak,qal,qag,qba,qcb,qa8,qaj,qaS,qao,qaw,qaI,qaU,qaX,qaf,qaF,qas,qaG,qa5,ren,renC,qbb,qbT,qb2,qa7,qaa,qaq,Option.getD_some,Option.getD_none,List.map_cons,List.map_nil,List.flatMap_cons,List.flatMap_nil,List.length_nil,List.length_map,List.append_nil,List.getElem?_nil,List.getElem?_cons_zero,List.getElem?_cons_succ,List.take_nil,↓reduceIte,Bool.not_true,Bool.false_eq_true,decide_false,Nat.le_refl,reduceCtorEq,Nat.reduceEqDiff,qaD,qaA,hne,hloop,bne]
  | some u =>
    rw[hq] at hs hloop
    have hd:decide (a=b)=false:=by simpa using hs.symm
    rw[hd]
    simp only[qcw] at hloop
    unfold fn139
    simp -implicitDefEqProofs only[qam,qad,qae,qab,qac,qah,aOp,opd,qak,qal,qaB,qag,qba,qcb,qa8,qaj,qaS,qao,qaw,qaI,qaU,qaX,qaf,qaF,qas,qaG,qa5,ren,renC,qbb,qbT,qb2,qa7,qaa,qaq,Option.getD_some,Option.getD_none,List.map_cons,List.map_nil,List.flatMap_cons,List.flatMap_nil,List.length_nil,List.length_map,List.append_nil,List.getElem?_nil,List.getElem?_cons_zero,List.getElem?_cons_succ,List.take_nil,↓reduceIte,Bool.not_true,Bool.false_eq_true,decide_false,Nat.le_refl,reduceCtorEq,Nat.reduceEqDiff,qaD,qaA,hne,hloop,bne]
 ·have hne:((a.length:Int)==(b.length:Int))=false:=by simp;omega
  have hd:decide (a=b)=false:=by simpa using fun e=>hl (by rw[e])
  rw[hd]
  unfold fn139
  simp -implicitDefEqProofs only[qad,qae,qab,qar,qac,qah,aOp,opd,qak,qal,qag,qba,qcb,qa8,qaj,qaS,qao,qaw,qaI,qa7,Option.getD_some,List.length_map,List.getElem?_cons_zero,List.getElem?_cons_succ,↓reduceIte,Bool.not_false,Bool.false_eq_true,reduceCtorEq,Nat.reduceEqDiff,qaD,hne,bne]
end
section
def qxv (l l':List Int) (m:IM Int):IM Int:=(l.zip l').foldl (fun m p=>qqg p.1 p.2 m) m
variable {L:Lib}
variable (hL:Plain L)
include hL
end
end Go.Abs
set_option linter.unusedVariables false
set_option linter.unusedSimpArgs false
set_option maxRecDepth 100000
set_option maxHeartbeats 4000000
namespace Go.Abs
section
variable {L:Lib} (hL:Plain L)
include hL
end
end Go.Abs
