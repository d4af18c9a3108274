/-
  PARTS OF A PROOF, joined: an abstract machine for quiet code, its evaluation, and what the seat's functions answer on it. Conditions: none.
-/
import Derived.Test.YtjbgooldkkbdmaaDoorCS
import Derived.Test.YtjbgooldkkbdmaaDoorC
set_option linter.unusedVariables false
set_option linter.unusedSimpArgs false
set_option maxRecDepth 100000
set_option maxHeartbeats 4000000
namespace Go.Abs
def IdMap (m:IM Int):Prop:=∀ v w,qbi v m=some w→w=v
theorem IdMap.put {m:IM Int} (h:IdMap m) (v:Int):IdMap (qhi v v m):=by
 intro x w hx
 rw[qde] at hx
 split at hx
 ·injection hx with hx
  omega
 ·exact h x w hx
theorem IdMap.zip:∀ (l:List Int) {m:IM Int},IdMap m→IdMap (qva l l m)
 | [],m,h=>h
 | x::l,m,h=>IdMap.zip l (h.put x)
theorem qdJ {e:List CExpr} (h:qbw e=0):TreeL e∧e.length≤4096∧hgt (qbO e)≤400∧(∀ x∈e,qb9 false (qgz e x)=0)∧(e.flatMap qaz).Nodup∧qgj (qbO e)=[]:=by
 unfold qbw qkt at h
 by_cases h1:qer e=0
 ·rw[if_neg (fun hx=>hx h1)] at h
  obtain⟨a,b,c⟩:=(qhn e).1 h1
  by_cases h2:qbx (e.map fun x=>qb9 false (qgz e x))=0
  ·rw[if_neg (fun hx=>hx h2)] at h
   rw[qnz] at h
   by_cases h3:(e.flatMap qaz).Nodup
   ·simp only[h3,decide_true,Bool.not_true,Bool.false_eq_true,if_false] at h
    refine⟨a,b,c,(qea _ e).1 h2,h3,?_⟩
    cases hf:qgj (qbO e) with
    | nil=>rfl
    | cons n l=>rw[hf] at h;simp[qpw] at h
   ·simp only[h3,decide_false,Bool.not_false,if_true] at h
    cases h
  ·rw[if_pos h2] at h
   exact absurd h h2
 ·rw[if_pos h1] at h
  exact absurd h h1
theorem qoh {e:List CExpr} (hT:TreeL e) (hn:e.length≤4096) (hz:∀ x∈e,qb9 false (qgz e x)=0):∀ x∈e,qrt x:=by
 intro x hx
 have h0:=hz x hx
 unfold qb9 at h0
 split at h0
 ·cases h0
 ·have:=qn0 h0 (by unfold qgz;rw[List.length_map];have:=qqo e hT x hx;omega)
  unfold qrt
  unfold qgz at this
  dsimp only at this
  omega
theorem qpS {e:List CExpr} (h:qbw e=0) (hf:∀ x∈e,NodeFit x):TFit (qbO e)∧qez (qbO e)=e.length:=by
 obtain⟨a,b,c,d,_,_⟩:=qdJ h
 exact⟨qre e a.ahead hf (qoh a b d) _ (by have:=a.pos;omega),qgY e a⟩
section
end
section
end
section
end
theorem qhQ {e:List CExpr} (h:TreeL e):∀ p,∀ j∈qbj e p,j<p:=by
 intro p j hj
 unfold qbj at hj
 cases hq:e[p]? with
 | none=>rw[hq] at hj;cases hj
 | some x =>
   rw[hq] at hj
   obtain⟨k,hk,rfl⟩:=List.mem_map.1 hj
   obtain⟨hp,rfl⟩:=List.getElem?_eq_some_iff.1 hq
   have:=h.ahead p hp k hk
   omega
def qdw (l:Lab):List Int:=qbY l.op l.binds l.alts
structure TOk (t:CTree):Prop where
 size:qez t≤4096
 deep:hgt t≤400
 lab:∀ l∈qcR t,qb9 false l=0
 once:((qcR t).flatMap qdw).Nodup
theorem qfG (e l:List CExpr):l.flatMap qaz=(l.map (qgz e)).flatMap qdw:=by
 rw[List.flatMap_map]
 rfl
theorem qs2 {e:List CExpr} (h:qbw e=0):TOk (qbO e):=by
 obtain⟨a,b,c,d,f,g⟩:=qdJ h
 have hp:=qdT e a
 refine⟨by rw[qgY e a];exact b,c,fun l hl=>?_,?_⟩
 ·obtain⟨x,hx,rfl⟩:=List.mem_map.1 (hp.mem_iff.1 hl)
  exact d x hx
 ·rw[qfG e] at f
  exact ((hp.flatMap_right _).nodup_iff).2 f
section
end
section
end
def NN (b:IM Int):Prop:=∀ u,0≤qbH u b
theorem NN.up {b:IM Int} (h:NN b) (l:List Int):NN (l.foldl (qgq 1) b):=by
 intro u
 rw[qc5]
 have:=h u
 unfold qvr
 omega
end Go.Abs
