/-
  PARTS OF A PROOF, joined: an abstract machine for quiet code, its evaluation, and what the seat's functions answer on it. Conditions: none.
-/
import Derived.Test.YtpchghpipgpkfaaDoorCS
import Derived.Test.YtpchghpipgpkfaaDoorC
set_option linter.unusedVariables false
set_option linter.unusedSimpArgs false
set_option maxRecDepth 100000
set_option maxHeartbeats 4000000
namespace Go.Abs
structure CLib2 (L:Lib):Prop extends CLib L where
 f132:L.fns 132=some fn132
 f133:L.fns 133=some fn133
 f139:L.fns 139=some fn139
 f154:L.fns 154=some fn154
 list:∀ (t:CTree),TFit t→qaP t<2 ^ 30→∀ h:Heap,pcall L 159 [qar t] h=some (.val (.list ((qaU t).map qam) none),h)
 f161:L.fns 161=some fn161
 f162:L.fns 162=some fn162
 f163:L.fns 163=some fn163
 f164:L.fns 164=some fn164
 f177:L.fns 177=some fn177
 f183:L.fns 183=some fn183
 f189:L.fns 189=some fn189
def IdMap (m:IM Int):Prop:=∀ v w,qbR v m=some w→w=v
theorem IdMap.put {m:IM Int} (h:IdMap m) (v:Int):IdMap (qoV v v m):=by
 intro x w hx
 rw[qjz] at hx
 split at hx
 ·injection hx with hx
  omega
 ·exact h x w hx
theorem IdMap.zip:∀ (l:List Int) {m:IM Int},IdMap m→IdMap (qis l l m)
 | [],m,h=>h
 | x::l,m,h=>IdMap.zip l (h.put x)
theorem qoh (as:List CAlt):qfc as as=false:=by
 cases hq:qfc as as with
 | false=>rfl
 | true =>
   obtain⟨i,hi,h⟩:=(qg8 (qgW as) as 0).1 hq
   unfold qgW at h
   rw[Nat.zero_add,List.getElem?_eq_getElem hi] at h
   simp at h
mutual
theorem qnF:∀ (t:CTree) (m:IM Int),IdMap m→(qgQ t t m).1=true∧IdMap (qgQ t t m).2
 | .mk op n binds kids alts,m,h => by
   rw[qgQ,if_neg (by simp)]
   by_cases h0:op=0
   ·rw[if_pos h0]
    refine⟨?_,h⟩
    unfold qo8
    cases hq:qbR n m with
    | none=>simp
    | some x=>have:=h n x hq;simp[this]
   ·rw[if_neg h0,if_neg (by simp),qoh,if_neg (by decide)]
    exact qlr kids _ (h.zip _)
theorem qlr:∀ (ks:List CTree) (m:IM Int),IdMap m→(qdo ks ks m).1=true∧IdMap (qdo ks ks m).2
 | [],m,h=>by rw[qdo];exact⟨rfl,h⟩
 | k :: ks,m,h => by
   obtain⟨h1,h2⟩:=qnF k m h
   rw[qdo]
   rcases hq:qgQ k k m with ⟨b,m1⟩
   rw[hq] at h1 h2
   have h1:b=true:=h1
   subst h1
   exact qlr ks m1 h2
end
theorem qbq {e:List CExpr} (h:qaL e=0):TreeL e∧e.length≤4096∧hgt (qa0 e)≤400∧(∀ x∈e,qb6 false (qgc e x)=0)∧(e.flatMap qbC).Nodup∧qgp (qa0 e)=[]:=by
 unfold qaL qjf at h
 by_cases h1:qeZ e=0
 ·rw[if_neg (fun hx=>hx h1)] at h
  obtain⟨a,b,c⟩:=(qfE e).1 h1
  by_cases h2:qbJ (e.map fun x=>qb6 false (qgc e x))=0
  ·rw[if_neg (fun hx=>hx h2)] at h
   rw[qko] at h
   by_cases h3:(e.flatMap qbC).Nodup
   ·simp only[h3,decide_true,Bool.not_true,Bool.false_eq_true,if_false] at h
    refine⟨a,b,c,(qdA _ e).1 h2,h3,?_⟩
    cases hf:qgp (qa0 e) with
    | nil=>rfl
    | cons n l=>rw[hf] at h;simp[qrk] at h
   ·simp only[h3,decide_false,Bool.not_false,if_true] at h
    cases h
  ·rw[if_pos h2] at h
   exact absurd h h2
 ·rw[if_pos h1] at h
  exact absurd h h1
theorem quc {e:List CExpr} (a:TreeL e) (b:e.length≤4096) (c:hgt (qa0 e)≤400) (d:∀ x∈e,qb6 false (qgc e x)=0) (f:(e.flatMap qbC).Nodup) (g:qgp (qa0 e)=[]):qaL e=0:=by
 unfold qaL qjf
 rw[if_neg (fun hx=>hx ((qfE e).2 ⟨a,b,c⟩)),if_neg (fun hx=>hx ((qdA _ e).2 d)),qko,g]
 simp[f]
theorem qpP {e:List CExpr} (hT:TreeL e) (hn:e.length≤4096) (hz:∀ x∈e,qb6 false (qgc e x)=0):∀ x∈e,qtW x:=by
 intro x hx
 have h0:=hz x hx
 unfold qb6 at h0
 split at h0
 ·cases h0
 ·have:=qpA h0 (by unfold qgc;rw[List.length_map];have:=qsw e hT x hx;omega)
  unfold qtW
  unfold qgc at this
  dsimp only at this
  omega
theorem qef {e:List CExpr} (h:qaL e=0) (hf:∀ x∈e,NodeFit x):TFit (qa0 e)∧qaP (qa0 e)=e.length:=by
 obtain⟨a,b,c,d,_,_⟩:=qbq h
 exact⟨qo4 e a.ahead hf (qpP a b d) _ (by have:=a.pos;omega),qgh e a⟩
mutual
theorem qiZ:∀ (t:CTree) (b:Nat),TFit t→∀ x∈qcq t b,NodeFit x
 | .mk op n binds kids alts,b,h => by
   cases h with
   | mk _ _ _ _ _ hb hk ha hfk =>
     rw[qcq]
     intro x hx
     rcases List.mem_append.1 hx with hx | hx
     ·exact qne kids b hfk x hx
     ·rw[List.mem_singleton.1 hx]
      rw[List.length_append] at hb
      exact⟨by dsimp only;omega,by dsimp only;rw[qdV];exact hk,ha,fun a hm=>by have:=qiM alts hm;omega⟩
theorem qne:∀ (ks:List CTree) (b:Nat),(∀ k∈ks,TFit k)→∀ x∈qaK ks b,NodeFit x
 | [],b,_=>by rw[qaK];intro x hx;cases hx
 | k :: ks,b,h => by
   rw[qaK]
   intro x hx
   rcases List.mem_append.1 hx with hx | hx
   ·exact qiZ k b (h k (by simp)) x hx
   ·exact qne ks _ (fun y hy=>h y (by simp[hy])) x hx
end
theorem qqr {e:List CExpr} (h:qaL e=0):qaL (qaU (qa0 e))=0:=by
 obtain⟨a,b,c,d,f,g⟩:=qbq h
 have hT:=qnU (qa0 e)
 have hg:=qgb (qa0 e)
 have hp1:=qgf e a
 have hp2:=qgf _ hT
 rw[hg] at hp2
 have hp:(e.map (qgc e)).Perm ((qaU (qa0 e)).map (qgc (qaU (qa0 e)))):=hp1.symm.trans hp2
 refine quc hT ?_ ?_ ?_ ?_ ?_
 ·unfold qaU
  rw[qde,qgh e a]
  exact b
 ·rw[hg];exact c
 ·intro x hx
  have hm:qgc (qaU (qa0 e)) x∈e.map (qgc e):=hp.mem_iff.2 (List.mem_map_of_mem hx)
  obtain⟨y,hy,he⟩:=List.mem_map.1 hm
  rw[← he]
  exact d y hy
 ·have hbl:∀ (l:List CExpr),l.flatMap qbC=(l.map (qgc l)).flatMap fun q=>qbn q.op q.binds q.alts:=by
   intro l
   rw[List.flatMap_map]
   rfl
  have hbl2:∀ (l m:List CExpr),m.flatMap qbC=(m.map (qgc l)).flatMap fun q=>qbn q.op q.binds q.alts:=by
   intro l m
   rw[List.flatMap_map]
   rfl
  rw[hbl2 (qaU (qa0 e))]
  rw[hbl2 e] at f
  exact ((hp.flatMap_right _).nodup_iff).1 f
 ·rw[hg];exact g
def qgw (a b:List CExpr):Bool:=(qaL a==0) && (qaL b==0) && (qgQ (qa0 a) (qa0 b) []).1
section
variable {L:Lib} (hC:CLib2 L)
include hC
theorem qq7 (a b:List CExpr) (ha:a.length<2 ^ 30) (hfa:∀ x∈a,NodeFit x) (hb:b.length<2 ^ 30) (hfb:∀ x∈b,NodeFit x) (h:Heap) :
  pcall L 133 [.list (a.map qam) none,.list (b.map qam) none] h=some (.val (.bool (qgw a b)),h):=by
 have hL:=hC.plain
 have hp:=hL.pure
 have hdA:=qaz a
 have hdB:=qaz b
 have hca:=qdx hC.toCLib a ha hfa
 have hcb:=qdx hC.toCLib b hb hfb
 refine qaY hL hC.f133 rfl ?_ h
 unfold qgw
 by_cases hz:qaL a=0
 ·by_cases hy:qaL b=0
  ·rw[hz] at hca
   rw[hy] at hcb
   obtain⟨hT,_,hdp,_⟩:=qbq hz
   obtain⟨hT',_,hdp',_⟩:=qbq hy
   obtain⟨hft,_⟩:=qef hz hfa
   obtain⟨hft',_⟩:=qef hy hfb
   have hg:=fun h=>hC.grow a h ha hfa hT hdp
   have hg':=fun h=>hC.grow b h hb hfb hT' hdp'
   have hs:=qo1 hL hC.f139 hC.f232 hC.f189 hC.f164 (qa0 a) (qa0 b) hft hft'
   obtain⟨tc,htc,hdt⟩:=qbu (qa0 a)
   obtain⟨tc',htc',hdt'⟩:=qbu (qa0 b)
   rw[htc] at hg hs
   rw[htc'] at hg' hs
   rw[hz,hy]
   unfold fn133
   simp -implicitDefEqProofs only[ev_,aOp,opd,qaa,qay,qax,qab,qaf,qao,qac,qae,qaj,↓reduceIte,reduceCtorEq,Nat.reduceEqDiff,qat,qak,hca,hcb,hg,hg',hs,hdA,hdB,hdt,hdt',qal L hp,hp]
  ·have hy':(qaL b==0)=false:=by simpa using hy
   rw[hz] at hca
   rw[hz,hy']
   unfold fn133
   simp -implicitDefEqProofs only[ev_,aOp,opd,qaa,qay,qax,qab,qaf,qao,qac,qae,qaj,↓reduceIte,reduceCtorEq,Nat.reduceEqDiff,qat,qak,hca,hcb,hy',hdA,hdB,qal L hp,hp]
 ·have hz':(qaL a==0)=false:=by simpa using hz
  rw[hz']
  unfold fn133
  simp -implicitDefEqProofs only[ev_,aOp,opd,qaa,qay,qax,qab,qaf,qao,qac,qae,qaj,↓reduceIte,reduceCtorEq,Nat.reduceEqDiff,qat,qak,hca,hz',hdA,hdB,qal L hp,hp]
end
section
end
section
end
theorem qhC {e:List CExpr} (h:TreeL e):∀ p,∀ j∈qbo e p,j<p:=by
 intro p j hj
 unfold qbo at hj
 cases hq:e[p]? with
 | none=>rw[hq] at hj;cases hj
 | some x =>
   rw[hq] at hj
   obtain⟨k,hk,rfl⟩:=List.mem_map.1 hj
   obtain⟨hp,rfl⟩:=List.getElem?_eq_some_iff.1 hq
   have:=h.ahead p hp k hk
   omega
theorem qvz (e:List CExpr) (hk:qe5 e):∀ (i:Nat),i<e.length→∃ X:List Nat,qob (qbp e i)=X.map (qbp e)∧X.Perm (i::X.flatMap (qbo e))∧∀ x∈X,x≤i:=by
 intro i
 induction i using Nat.strongRecOn with
 | ind i ih =>
   intro hi
   have key:∀ ks:List Int,(∀ k∈ks,0≤k∧k<i)→∃ Y:List Nat,qe9 (ks.map fun k=>qbp e k.toNat)=Y.map (qbp e)∧Y.Perm (ks.map Int.toNat++Y.flatMap (qbo e))∧∀ y∈Y,y<i:=by
    intro ks
    induction ks with
    | nil=>intro _;exact⟨[],by rw[List.map_nil,qe9];rfl,.refl _,by simp⟩
    | cons k ks ihk =>
      intro h
      obtain⟨k0,k1⟩:=h k (by simp)
      obtain⟨Y,y1,y2,y3⟩:=ihk fun x hx=>h x (by simp[hx])
      obtain⟨X,x1,x2,x3⟩:=ih k.toNat (by omega) (by omega)
      refine⟨X++Y,by rw[List.map_cons,qe9,x1,y1,List.map_append],?_,fun z hz=>?_⟩
      ·rw[List.flatMap_append,List.map_cons,List.cons_append]
       refine (x2.append y2).trans ?_
       rw[List.cons_append]
       refine List.Perm.cons _ ?_
       rw[← List.append_assoc,← List.append_assoc]
       exact List.perm_append_comm.append_right _
      ·rcases List.mem_append.1 hz with hz | hz
       ·have:=x3 z hz;omega
       ·exact y3 z hz
   obtain⟨Y,y1,y2,y3⟩:=key e[i].kids (hk i hi)
   have hki:qbo e i=e[i].kids.map Int.toNat:=by unfold qbo;rw[List.getElem?_eq_getElem hi]
   refine⟨Y++[i],?_,?_,?_⟩
   ·rw[List.map_append,← y1]
    have h1:=qcR e hk i hi
    show _=_++[qbp e i]
    rw[h1,qob]
   ·rw[List.flatMap_append,List.flatMap_cons,List.flatMap_nil,List.append_nil,hki]
    refine List.perm_append_comm.trans ?_
    rw[List.cons_append,List.nil_append]
    exact List.Perm.cons _ (y2.trans List.perm_append_comm)
   ·intro x hx
    rcases List.mem_append.1 hx with hx | hx
    ·have:=y3 x hx;omega
    ·have:=List.mem_singleton.1 hx;omega
theorem qtw (e:List CExpr) (h:TreeL e):(qob (qa0 e)).Perm ((List.range e.length).map (qbp e)):=by
 have hpos:=h.pos
 obtain⟨X,x1,x2,x3⟩:=qvz e h.ahead (e.length-1) (by omega)
 have hperm:X.Perm (List.range e.length):=by
  rw[List.perm_iff_count]
  intro j
  by_cases hj:j<e.length
  ·exact (qfi (qbo e) (qhC h) (e.length-1) e.length X (List.range e.length) x2 (qd4 e h) (fun x hx=>by have:=x3 x hx;omega) (fun y hy=>List.mem_range.1 hy) (e.length-j) j (by omega)).1
  ·rw[List.count_eq_zero.2 (fun hm=>by have:=x3 j hm;omega),List.count_eq_zero.2 (fun hm=>by have:=List.mem_range.1 hm;omega)]
 rw[qhm,x1]
 exact hperm.map _
theorem qyZ {e:List CExpr} (h:TreeL e) (n:Nat) (hn:n<e.length):qbp e n∈qob (qa0 e) :=
 (qtw e h).mem_iff.2 (List.mem_map_of_mem (List.mem_range.2 hn))
mutual
theorem qp6:∀ (t s:CTree),s∈qob t→qaP s≤qaP t∧hgt s≤hgt t∧(qcT s).Sublist (qcT t)
 | .mk op n binds kids alts,s,h => by
   rw[qob] at h
   rcases List.mem_append.1 h with h | h
   ·obtain⟨a,b,c⟩:=qnQ kids s h
    refine⟨by rw[qaP];omega,by rw[hgt];omega,?_⟩
    rw[qcT]
    exact c.trans (List.sublist_append_left _ _)
   ·rw[List.mem_singleton.1 h]
    exact⟨Nat.le_refl _,Nat.le_refl _,List.Sublist.refl _⟩
theorem qnQ:∀ (ks:List CTree) (s:CTree),s∈qe9 ks→qaP s≤qaB ks∧hgt s≤qdv ks∧(qcT s).Sublist (qdt ks)
 | [],s,h=>by rw[qe9] at h;cases h
 | k :: ks,s,h => by
   rw[qe9] at h
   rw[qaB,qdv,qdt]
   rcases List.mem_append.1 h with h | h
   ·obtain⟨a,b,c⟩:=qp6 k s h
    exact⟨by omega,by omega,c.trans (List.sublist_append_left _ _)⟩
   ·obtain⟨a,b,c⟩:=qnQ ks s h
    exact⟨by omega,by omega,c.trans (List.sublist_append_right _ _)⟩
end
theorem qnO {α β:Type} (f:α→List β) {l m:List α} (h:l.Sublist m):(l.flatMap f).Sublist (m.flatMap f):=by
 induction h with
 | slnil=>exact List.Sublist.refl _
 | cons a _ ih=>rw[List.flatMap_cons];exact ih.trans (List.sublist_append_right _ _)
 | cons_cons a _ ih=>rw[List.flatMap_cons,List.flatMap_cons];exact (List.Sublist.refl _).append ih
def qpO (l:Lab):List Int:=qbn l.op l.binds l.alts
structure TOk (t:CTree):Prop where
 size:qaP t≤4096
 deep:hgt t≤400
 lab:∀ l∈qcT t,qb6 false l=0
 once:((qcT t).flatMap qpO).Nodup
theorem qyf {t s:CTree} (h:TOk t) (hs:s∈qob t):TOk s:=by
 obtain⟨a,b,c⟩:=qp6 t s hs
 exact⟨by have:=h.size;omega,by have:=h.deep;omega,fun l hl=>h.lab l (c.subset hl),h.once.sublist (qnO _ c)⟩
theorem qon (e l:List CExpr):l.flatMap qbC=(l.map (qgc e)).flatMap qpO:=by
 rw[List.flatMap_map]
 rfl
theorem qy0 {e:List CExpr} (h:qaL e=0):TOk (qa0 e):=by
 obtain⟨a,b,c,d,f,g⟩:=qbq h
 have hp:=qgf e a
 refine⟨by rw[qgh e a];exact b,c,fun l hl=>?_,?_⟩
 ·obtain⟨x,hx,rfl⟩:=List.mem_map.1 (hp.mem_iff.1 hl)
  exact d x hx
 ·rw[qon e] at f
  exact ((hp.flatMap_right _).nodup_iff).2 f
theorem qkh {e:List CExpr} (hz:qaL e=0) (hf:∀ x∈e,NodeFit x) (n:Nat) (hn:n<e.length):TFit (qbp e n):=by
 obtain⟨hT,hn2,hh,hlab,_⟩:=qbq hz
 exact qo4 e hT.ahead hf (qpP hT hn2 hlab) n hn
section
end
section
end
def NN (b:IM Int):Prop:=∀ u,0≤qeb u b
theorem NN.up {b:IM Int} (h:NN b) (l:List Int):NN (l.foldl (qgr 1) b):=by
 intro u
 rw[qcX]
 have:=h u
 unfold qyx
 omega
end Go.Abs
