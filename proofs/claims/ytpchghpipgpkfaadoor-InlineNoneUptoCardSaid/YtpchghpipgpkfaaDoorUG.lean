/-
  PARTS OF A PROOF, joined: an abstract machine for quiet code, its evaluation, and what the seat's functions answer on it. Conditions: none.
-/
import Derived.Test.YtpchghpipgpkfaaDoorUA
set_option linter.unusedVariables false
set_option linter.unusedSimpArgs false
set_option maxRecDepth 100000
set_option maxHeartbeats 4000000
namespace Go.Abs
section
end
section
end
theorem qzE {L:Lib} (hL:Plain L) (hf:L.fns 290=some fn290) (f:AVal) (hd:qaB f=true) (hk:∃ g a c,f=.func g a c) (p:CExpr→Bool) (xs:List CExpr) (hl:xs.length<2 ^ 30)
  (hg:∀ a∈xs,∀ h:Heap,(match f with | .func g u c=>qce L.pure (call L) g (u++.agg [.int .i64 a.op,.int .i64 a.n,.list (a.binds.map qat) none,.list (a.kids.map qat) none,.list (a.alts.map qas) none]::c) h | _=>none)=some (.val (.bool (p a)),h)) (h:Heap) :
  pcall L 290 [.list (xs.map qal) none,f] h=some (.val (.int .i64 (qza p xs)),h):=by
 have hp:=hL.pure
 obtain⟨g,u,c,rfl⟩:=hk
 dsimp only at hg
 refine qaV hL hf rfl ?_ h
 have hloop:=qbN (pure:=L.pure) (call:=call L) (b:=0) (keep:=[0,1,7,8]) (fk:=[4]) (id:=0) (body:=qhv) xs (fun i a=>if p a=true then some i else none)
  (fun i=>⟨kt [0,1,7,8] [.list (xs.map qal) none,.func g u c,.int .i64 xs.length,.int .i64 i],[]⟩) ⟨kt [4] [.junk],[]⟩ (fun i=>⟨kt [4] [.int .i64 i],[]⟩)
  (by
   intro i hi hq
   have h1:((i:Int)<xs.length):=by omega
   have h2:IntKind.i64.wrap ((i:Int)+1)=((i+1:Nat):Int):=by rw[qb3 (by omega) (by omega)];rfl
   have h3:(xs.map qal)[i]? = some (qal xs[i]):=by simp[hi]
   have h5:=hg xs[i] (List.getElem_mem hi)
   have h6:p xs[i]=false:=by cases hx:p xs[i]<;>simp[hx] at hq ⊢
   generalize xs[i]=a at *
   unfold qhv
   simp -implicitDefEqProofs only[ev_,aOp,opd,qaa,qaA,qaz,qad,qab,qaJ,qax,ren,renC,qa0,qbb,↓reduceIte,reduceCtorEq,Nat.reduceEqDiff,Nat.reduceAdd,qaP,qaD,hd,h1,h2,h3,h5,h6,reduceCtorEq])
  (by
   intro i hi r hq
   have h1:((i:Int)<xs.length):=by omega
   have h3:(xs.map qal)[i]? = some (qal xs[i]):=by simp[hi]
   have h5:=hg xs[i] (List.getElem_mem hi)
   have h6:p xs[i]=true:=by cases hx:p xs[i]<;>simp[hx] at hq ⊢
   have h7:i=r:=by simpa[h6] using hq
   subst h7
   generalize xs[i]=a at *
   unfold qhv
   simp -implicitDefEqProofs only[ev_,aOp,opd,qaa,qaA,qaz,qad,qab,qaJ,gcE,qax,ren,renC,qa0,qbb,↓reduceIte,reduceCtorEq,Nat.reduceEqDiff,Nat.reduceAdd,qaP,hd,h1,h3,h5,h6,reduceCtorEq])
  (by
   have h0:¬ ((xs.length:Int)<xs.length):=by omega
   unfold qhv
   simp -implicitDefEqProofs only[ev_,aOp,opd,qaa,qaA,qaz,qab,gcE,qax,ren,renC,qa0,qbb,↓reduceIte,reduceCtorEq,Nat.reduceEqDiff,hd,h0,reduceCtorEq])
 simp only[Int.natCast_zero] at hloop
 unfold fn290 qza
 cases hq:qaF (fun i a=>if p a=true then some i else none) xs 0<;>simp only[hq,qbf] at hloop<;>simp -implicitDefEqProofs only[ev_,aOp,opd,qaa,qa7,qap,qac,qaf,qaj,qax,ren,renC,qa0,qbb,↓reduceIte,reduceCtorEq,Nat.reduceEqDiff,Int.reduceNeg,qak,qaD,hd,hloop,hq]
theorem qzn {L:Lib} (hL:Plain L) (hf:L.fns 276=some fn276) (hfi:L.fns 290=some fn290) (f:AVal) (hd:qaB f=true) (hk:∃ g a c,f=.func g a c) (p:CExpr→Bool) (xs:List CExpr) (hl:xs.length<2 ^ 30)
  (hg:∀ a∈xs,∀ h:Heap,(match f with | .func g u c=>qce L.pure (call L) g (u++.agg [.int .i64 a.op,.int .i64 a.n,.list (a.binds.map qat) none,.list (a.kids.map qat) none,.list (a.alts.map qas) none]::c) h | _=>none)=some (.val (.bool (p a)),h)) (h:Heap) :
  pcall L 276 [.list (xs.map qal) none,f] h=some (.val (.bool (xs.any p)),h):=by
 have hp:=hL.pure
 have hi:=qzE hL hfi f hd hk p xs hl hg
 obtain⟨g,u,c,rfl⟩:=hk
 refine qaV hL hf rfl ?_ h
 have ha:=qqS p xs
 unfold fn276
 cases hq:xs.any p<;>rw[hq] at ha<;>simp -implicitDefEqProofs only[ev_,aOp,opd,qaa,qaA,qaz,qab,qap,qac,qaf,qaj,↓reduceIte,reduceCtorEq,Nat.reduceEqDiff,ge_iff_le,qak,qaD,hd,hi,qam L hp,hp,ha]
end Go.Abs
