/-
  PARTS OF A PROOF, joined: an abstract machine for quiet code, its evaluation, and what the seat's functions answer on it. Conditions: none.
-/
import Derived.Test.YtbmognfolkhkpaaDoorCS
import Derived.Test.YtbmognfolkhkpaaDoorC
set_option linter.unusedVariables false
set_option linter.unusedSimpArgs false
set_option maxRecDepth 100000
set_option maxHeartbeats 4000000
namespace Go.Abs
structure CLib2 (L:Lib):Prop extends CLib L where
 f130:L.fns 130=some qw6
 f131:L.fns 131=some qw7
 f132:L.fns 132=some fn132
 f133:L.fns 133=some fn133
 f139:L.fns 139=some fn139
 f154:L.fns 154=some fn154
 list:∀ (t:CTree),TFit t→qbA t<2 ^ 30→∀ h:Heap,pcall L 159 [qa1 t] h=some (.val (.list ((qcR t).map qaO) none),h)
 f161:L.fns 161=some fn161
 f162:L.fns 162=some fn162
 f163:L.fns 163=some fn163
 f164:L.fns 164=some fn164
 f177:L.fns 177=some fn177
 f183:L.fns 183=some fn183
 f189:L.fns 189=some fn189
def IdMap (m:IM Int):Prop:=∀ v w,qc8 v m=some w→w=v
theorem IdMap.put {m:IM Int} (h:IdMap m) (v:Int):IdMap (qqg v v m):=by
 intro x w hx
 rw[qkp] at hx
 split at hx
 ·injection hx with hx
  omega
 ·exact h x w hx
theorem IdMap.zip:∀ (l:List Int) {m:IM Int},IdMap m→IdMap (qxv l l m)
 | [],m,h=>h
 | x::l,m,h=>IdMap.zip l (h.put x)
theorem qdI {e:List CExpr} (h:qb6 e=0):TreeL e∧e.length≤4096∧hgt (qdY e)≤400∧(∀ x∈e,qdk false (qhI e x)=0)∧(e.flatMap qcL).Nodup∧qif (qdY e)=[]:=by
 unfold qb6 qmn at h
 by_cases h1:qf6 e=0
 ·rw[if_neg (fun hx=>hx h1)] at h
  obtain⟨a,b,c⟩:=(qjy e).1 h1
  by_cases h2:qcG (e.map fun x=>qdk false (qhI e x))=0
  ·rw[if_neg (fun hx=>hx h2)] at h
   rw[qpq] at h
   by_cases h3:(e.flatMap qcL).Nodup
   ·simp only[h3,decide_true,Bool.not_true,Bool.false_eq_true,if_false] at h
    refine⟨a,b,c,(qfQ _ e).1 h2,h3,?_⟩
    cases hf:qif (qdY e) with
    | nil=>rfl
    | cons n l=>rw[hf] at h;simp[qoI] at h
   ·simp only[h3,decide_false,Bool.not_false,if_true] at h
    cases h
  ·rw[if_pos h2] at h
   exact absurd h h2
 ·rw[if_pos h1] at h
  exact absurd h h1
theorem qpZ {e:List CExpr} (hT:TreeL e) (hn:e.length≤4096) (hz:∀ x∈e,qdk false (qhI e x)=0):∀ x∈e,qs6 x:=by
 intro x hx
 have h0:=hz x hx
 unfold qdk at h0
 split at h0
 ·cases h0
 ·have:=qpN h0 (by unfold qhI;rw[List.length_map];have:=qo6 e hT x hx;omega)
  unfold qs6
  unfold qhI at this
  dsimp only at this
  omega
theorem qrp {e:List CExpr} (h:qb6 e=0) (hf:∀ x∈e,NodeFit x):TFit (qdY e)∧qbA (qdY e)=e.length:=by
 obtain⟨a,b,c,d,_,_⟩:=qdI h
 exact⟨qpp e a.ahead hf (qpZ a b d) _ (by have:=a.pos;omega),qi5 e a⟩
mutual
theorem qp5:∀ (t:CTree) (b:Nat),TFit t→∀ x∈qdu t b,NodeFit x
 | .mk op n binds kids alts,b,h => by
   cases h with
   | mk _ _ _ _ _ hb hk ha hfk =>
     rw[qdu]
     intro x hx
     rcases List.mem_append.1 hx with hx | hx
     ·exact qnS kids b hfk x hx
     ·rw[List.mem_singleton.1 hx]
      rw[List.length_append] at hb
      exact⟨by dsimp only;omega,by dsimp only;rw[qe3];exact hk,ha,fun a hm=>by have:=qjK alts hm;omega⟩
theorem qnS:∀ (ks:List CTree) (b:Nat),(∀ k∈ks,TFit k)→∀ x∈qbs ks b,NodeFit x
 | [],b,_=>by rw[qbs];intro x hx;cases hx
 | k :: ks,b,h => by
   rw[qbs]
   intro x hx
   rcases List.mem_append.1 hx with hx | hx
   ·exact qp5 k b (h k (by simp)) x hx
   ·exact qnS ks _ (fun y hy=>h y (by simp[hy])) x hx
end
section
variable {L:Lib} (hC:CLib2 L)
include hC
end
section
variable {L:Lib} (hC:CLib2 L)
include hC
end
end Go.Abs
set_option linter.unusedVariables false
set_option linter.unusedSimpArgs false
set_option maxRecDepth 100000
set_option maxHeartbeats 4000000
namespace Go.Abs
section
variable {L:Lib} (hL:Plain L)
include hL
end
theorem qiC {e:List CExpr} (h:TreeL e):∀ p,∀ j∈qcn e p,j<p:=by
 intro p j hj
 unfold qcn at hj
 cases hq:e[p]? with
 | none=>rw[hq] at hj;cases hj
 | some x =>
   rw[hq] at hj
   obtain⟨k,hk,rfl⟩:=List.mem_map.1 hj
   obtain⟨hp,rfl⟩:=List.getElem?_eq_some_iff.1 hq
   have:=h.ahead p hp k hk
   omega
theorem qun (e:List CExpr) (hk:qfj e):∀ (i:Nat),i<e.length→∃ X:List Nat,qoL (qcq e i)=X.map (qcq e)∧X.Perm (i::X.flatMap (qcn e))∧∀ x∈X,x≤i:=by
 intro i
 induction i using Nat.strongRecOn with
 | ind i ih =>
   intro hi
   have key:∀ ks:List Int,(∀ k∈ks,0≤k∧k<i)→∃ Y:List Nat,qgf (ks.map fun k=>qcq e k.toNat)=Y.map (qcq e)∧Y.Perm (ks.map Int.toNat++Y.flatMap (qcn e))∧∀ y∈Y,y<i:=by
    intro ks
    induction ks with
    | nil=>intro _;exact⟨[],by rw[List.map_nil,qgf];rfl,.refl _,by simp⟩
    | cons k ks ihk =>
      intro h
      obtain⟨k0,k1⟩:=h k (by simp)
      obtain⟨Y,y1,y2,y3⟩:=ihk fun x hx=>h x (by simp[hx])
      obtain⟨X,x1,x2,x3⟩:=ih k.toNat (by omega) (by omega)
      refine⟨X++Y,by rw[List.map_cons,qgf,x1,y1,List.map_append],?_,fun z hz=>?_⟩
      ·rw[List.flatMap_append,List.map_cons,List.cons_append]
       refine (x2.append y2).trans ?_
       rw[List.cons_append]
       refine List.Perm.cons _ ?_
       rw[← List.append_assoc,← List.append_assoc]
       exact List.perm_append_comm.append_right _
      ·rcases List.mem_append.1 hz with hz | hz
       ·have:=x3 z hz;omega
       ·exact y3 z hz
   obtain⟨Y,y1,y2,y3⟩:=key e[i].kids (hk i hi)
   have hki:qcn e i=e[i].kids.map Int.toNat:=by unfold qcn;rw[List.getElem?_eq_getElem hi]
   refine⟨Y++[i],?_,?_,?_⟩
   ·rw[List.map_append,← y1]
    have h1:=qdl e hk i hi
    show _=_++[qcq e i]
    rw[h1,qoL]
   ·rw[List.flatMap_append,List.flatMap_cons,List.flatMap_nil,List.append_nil,hki]
    refine List.perm_append_comm.trans ?_
    rw[List.cons_append,List.nil_append]
    exact List.Perm.cons _ (y2.trans List.perm_append_comm)
   ·intro x hx
    rcases List.mem_append.1 hx with hx | hx
    ·have:=y3 x hx;omega
    ·have:=List.mem_singleton.1 hx;omega
theorem qsM (e:List CExpr) (h:TreeL e):(qoL (qdY e)).Perm ((List.range e.length).map (qcq e)):=by
 have hpos:=h.pos
 obtain⟨X,x1,x2,x3⟩:=qun e h.ahead (e.length-1) (by omega)
 have hperm:X.Perm (List.range e.length):=by
  rw[List.perm_iff_count]
  intro j
  by_cases hj:j<e.length
  ·exact (qgo (qcn e) (qiC h) (e.length-1) e.length X (List.range e.length) x2 (qfb e h) (fun x hx=>by have:=x3 x hx;omega) (fun y hy=>List.mem_range.1 hy) (e.length-j) j (by omega)).1
  ·rw[List.count_eq_zero.2 (fun hm=>by have:=x3 j hm;omega),List.count_eq_zero.2 (fun hm=>by have:=List.mem_range.1 hm;omega)]
 rw[qij,x1]
 exact hperm.map _
theorem qxA {e:List CExpr} (h:TreeL e) (n:Nat) (hn:n<e.length):qcq e n∈qoL (qdY e) :=
 (qsM e h).mem_iff.2 (List.mem_map_of_mem (List.mem_range.2 hn))
mutual
theorem qqj:∀ (t s:CTree),s∈qoL t→qbA s≤qbA t∧hgt s≤hgt t∧(qd5 s).Sublist (qd5 t)
 | .mk op n binds kids alts,s,h => by
   rw[qoL] at h
   rcases List.mem_append.1 h with h | h
   ·obtain⟨a,b,c⟩:=qop kids s h
    refine⟨by rw[qbA];omega,by rw[hgt];omega,?_⟩
    rw[qd5]
    exact c.trans (List.sublist_append_left _ _)
   ·rw[List.mem_singleton.1 h]
    exact⟨Nat.le_refl _,Nat.le_refl _,List.Sublist.refl _⟩
theorem qop:∀ (ks:List CTree) (s:CTree),s∈qgf ks→qbA s≤qa9 ks∧hgt s≤qeB ks∧(qd5 s).Sublist (qez ks)
 | [],s,h=>by rw[qgf] at h;cases h
 | k :: ks,s,h => by
   rw[qgf] at h
   rw[qa9,qeB,qez]
   rcases List.mem_append.1 h with h | h
   ·obtain⟨a,b,c⟩:=qqj k s h
    exact⟨by omega,by omega,c.trans (List.sublist_append_left _ _)⟩
   ·obtain⟨a,b,c⟩:=qop ks s h
    exact⟨by omega,by omega,c.trans (List.sublist_append_right _ _)⟩
end
theorem qon {α β:Type} (f:α→List β) {l m:List α} (h:l.Sublist m):(l.flatMap f).Sublist (m.flatMap f):=by
 induction h with
 | slnil=>exact List.Sublist.refl _
 | cons a _ ih=>rw[List.flatMap_cons];exact ih.trans (List.sublist_append_right _ _)
 | cons_cons a _ ih=>rw[List.flatMap_cons,List.flatMap_cons];exact (List.Sublist.refl _).append ih
def qpY (l:Lab):List Int:=qfo l.op l.binds l.alts
structure TOk (t:CTree):Prop where
 size:qbA t≤4096
 deep:hgt t≤400
 lab:∀ l∈qd5 t,qdk false l=0
 once:((qd5 t).flatMap qpY).Nodup
theorem qwN {t s:CTree} (h:TOk t) (hs:s∈qoL t):TOk s:=by
 obtain⟨a,b,c⟩:=qqj t s hs
 exact⟨by have:=h.size;omega,by have:=h.deep;omega,fun l hl=>h.lab l (c.subset hl),h.once.sublist (qon _ c)⟩
theorem qoT (e l:List CExpr):l.flatMap qcL=(l.map (qhI e)).flatMap qpY:=by
 rw[List.flatMap_map]
 rfl
theorem qxB {e:List CExpr} (h:qb6 e=0):TOk (qdY e):=by
 obtain⟨a,b,c,d,f,g⟩:=qdI h
 have hp:=qlX e a
 refine⟨by rw[qi5 e a];exact b,c,fun l hl=>?_,?_⟩
 ·obtain⟨x,hx,rfl⟩:=List.mem_map.1 (hp.mem_iff.1 hl)
  exact d x hx
 ·rw[qoT e] at f
  exact ((hp.flatMap_right _).nodup_iff).2 f
theorem qot {e:List CExpr} (hz:qb6 e=0) (hf:∀ x∈e,NodeFit x) (n:Nat) (hn:n<e.length):TFit (qcq e n):=by
 obtain⟨hT,hn2,hh,hlab,_⟩:=qdI hz
 exact qpp e hT.ahead hf (qpZ hT hn2 hlab) n hn
section
variable {L:Lib} (hC:CLib2 L)
include hC
end
end Go.Abs
set_option linter.unusedVariables false
set_option linter.unusedSimpArgs false
set_option maxRecDepth 100000
set_option maxHeartbeats 4000000
namespace Go.Abs
section
variable {L:Lib} (hC:CLib2 L)
include hC
end
end Go.Abs
set_option linter.unusedVariables false
set_option linter.unusedSimpArgs false
set_option maxRecDepth 100000
namespace Go.Abs
def NN (b:IM Int):Prop:=∀ u,0≤qiI u b
theorem NN.up {b:IM Int} (h:NN b) (l:List Int):NN (l.foldl (qip 1) b):=by
 intro u
 rw[qeP]
 have:=h u
 unfold qxK
 omega
end Go.Abs
