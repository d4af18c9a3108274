/-
  PARTS OF A PROOF, joined: an abstract machine for quiet code, its evaluation, and what the seat's functions answer on it. Conditions: none.
-/
import Derived.Test.YtpchghpipgpkfaaDoorCS
import Derived.Test.YtpchghpipgpkfaaDoorC
set_option linter.unusedVariables false
set_option linter.unusedSimpArgs false
set_option maxRecDepth 100000
set_option maxHeartbeats 4000000
namespace Go.Abs
structure CLib2 (L:Lib):Prop extends CLib L where
 f132:L.fns 132=some fn132
 f133:L.fns 133=some fn133
 f139:L.fns 139=some fn139
 f154:L.fns 154=some fn154
 list:∀ (t:CTree),TFit t→qaP t<2 ^ 30→∀ h:Heap,pcall L 159 [qap t] h=some (.val (.list ((qaQ t).map qam) none),h)
 f161:L.fns 161=some fn161
 f162:L.fns 162=some fn162
 f163:L.fns 163=some fn163
 f164:L.fns 164=some fn164
 f177:L.fns 177=some fn177
 f183:L.fns 183=some fn183
 f189:L.fns 189=some fn189
def IdMap (m:IM Int):Prop:=∀ v w,qbQ v m=some w→w=v
theorem IdMap.put {m:IM Int} (h:IdMap m) (v:Int):IdMap (qoN v v m):=by
 intro x w hx
 rw[qjl] at hx
 split at hx
 ·injection hx with hx
  omega
 ·exact h x w hx
theorem IdMap.zip:∀ (l:List Int) {m:IM Int},IdMap m→IdMap (qie l l m)
 | [],m,h=>h
 | x::l,m,h=>IdMap.zip l (h.put x)
theorem qn8 (as:List CAlt):qe3 as as=false:=by
 cases hq:qe3 as as with
 | false=>rfl
 | true =>
   obtain⟨i,hi,h⟩:=(qgR (qgG as) as 0).1 hq
   unfold qgG at h
   rw[Nat.zero_add,List.getElem?_eq_getElem hi] at h
   simp at h
mutual
theorem qnw:∀ (t:CTree) (m:IM Int),IdMap m→(qhj t t m).1=true∧IdMap (qhj t t m).2
 | .mk op n binds kids alts,m,h => by
   rw[qhj,if_neg (by simp)]
   by_cases h0:op=0
   ·rw[if_pos h0]
    refine⟨?_,h⟩
    unfold qo1
    cases hq:qbQ n m with
    | none=>simp
    | some x=>have:=h n x hq;simp[this]
   ·rw[if_neg h0,if_neg (by simp),qn8,if_neg (by decide)]
    exact qlh kids _ (h.zip _)
theorem qlh:∀ (ks:List CTree) (m:IM Int),IdMap m→(qde ks ks m).1=true∧IdMap (qde ks ks m).2
 | [],m,h=>by rw[qde];exact⟨rfl,h⟩
 | k :: ks,m,h => by
   obtain⟨h1,h2⟩:=qnw k m h
   rw[qde]
   rcases hq:qhj k k m with ⟨b,m1⟩
   rw[hq] at h1 h2
   have h1:b=true:=h1
   subst h1
   exact qlh ks m1 h2
end
theorem qbo {e:List CExpr} (h:qaJ e=0):TreeL e∧e.length≤4096∧hgt (qaY e)≤400∧(∀ x∈e,qb5 false (qf0 e x)=0)∧(e.flatMap qbA).Nodup∧qgd (qaY e)=[]:=by
 unfold qaJ qi1 at h
 by_cases h1:qeR e=0
 ·rw[if_neg (fun hx=>hx h1)] at h
  obtain⟨a,b,c⟩:=(qft e).1 h1
  by_cases h2:qbH (e.map fun x=>qb5 false (qf0 e x))=0
  ·rw[if_neg (fun hx=>hx h2)] at h
   rw[qka] at h
   by_cases h3:(e.flatMap qbA).Nodup
   ·simp only[h3,decide_true,Bool.not_true,Bool.false_eq_true,if_false] at h
    refine⟨a,b,c,(qdn _ e).1 h2,h3,?_⟩
    cases hf:qgd (qaY e) with
    | nil=>rfl
    | cons n l=>rw[hf] at h;simp[qrc] at h
   ·simp only[h3,decide_false,Bool.not_false,if_true] at h
    cases h
  ·rw[if_pos h2] at h
   exact absurd h h2
 ·rw[if_pos h1] at h
  exact absurd h h1
theorem qt1 {e:List CExpr} (a:TreeL e) (b:e.length≤4096) (c:hgt (qaY e)≤400) (d:∀ x∈e,qb5 false (qf0 e x)=0) (f:(e.flatMap qbA).Nodup) (g:qgd (qaY e)=[]):qaJ e=0:=by
 unfold qaJ qi1
 rw[if_neg (fun hx=>hx ((qft e).2 ⟨a,b,c⟩)),if_neg (fun hx=>hx ((qdn _ e).2 d)),qka,g]
 simp[f]
theorem qpI {e:List CExpr} (hT:TreeL e) (hn:e.length≤4096) (hz:∀ x∈e,qb5 false (qf0 e x)=0):∀ x∈e,qtL x:=by
 intro x hx
 have h0:=hz x hx
 unfold qb5 at h0
 split at h0
 ·cases h0
 ·have:=qpt h0 (by unfold qf0;rw[List.length_map];have:=qsn e hT x hx;omega)
  unfold qtL
  unfold qf0 at this
  dsimp only at this
  omega
theorem qd5 {e:List CExpr} (h:qaJ e=0) (hf:∀ x∈e,NodeFit x):TFit (qaY e)∧qaP (qaY e)=e.length:=by
 obtain⟨a,b,c,d,_,_⟩:=qbo h
 exact⟨qoX e a.ahead hf (qpI a b d) _ (by have:=a.pos;omega),qf5 e a⟩
mutual
theorem qiL:∀ (t:CTree) (b:Nat),TFit t→∀ x∈qdZ t b,NodeFit x
 | .mk op n binds kids alts,b,h => by
   cases h with
   | mk _ _ _ _ _ hb hk ha hfk =>
     rw[qdZ]
     intro x hx
     rcases List.mem_append.1 hx with hx | hx
     ·exact qm4 kids b hfk x hx
     ·rw[List.mem_singleton.1 hx]
      rw[List.length_append] at hb
      exact⟨by dsimp only;omega,by dsimp only;rw[qjX];exact hk,ha,fun a hm=>by have:=qix alts hm;omega⟩
theorem qm4:∀ (ks:List CTree) (b:Nat),(∀ k∈ks,TFit k)→∀ x∈qbn ks b,NodeFit x
 | [],b,_=>by rw[qbn];intro x hx;cases hx
 | k :: ks,b,h => by
   rw[qbn]
   intro x hx
   rcases List.mem_append.1 hx with hx | hx
   ·exact qiL k b (h k (by simp)) x hx
   ·exact qm4 ks _ (fun y hy=>h y (by simp[hy])) x hx
end
theorem qql {e:List CExpr} (h:qaJ e=0):qaJ (qaQ (qaY e))=0:=by
 obtain⟨a,b,c,d,f,g⟩:=qbo h
 have hT:=qnL (qaY e)
 have hg:=qfZ (qaY e)
 have hp1:=qf3 e a
 have hp2:=qf3 _ hT
 rw[hg] at hp2
 have hp:(e.map (qf0 e)).Perm ((qaQ (qaY e)).map (qf0 (qaQ (qaY e)))):=hp1.symm.trans hp2
 refine qt1 hT ?_ ?_ ?_ ?_ ?_
 ·unfold qaQ
  rw[qdS,qf5 e a]
  exact b
 ·rw[hg];exact c
 ·intro x hx
  have hm:qf0 (qaQ (qaY e)) x∈e.map (qf0 e):=hp.mem_iff.2 (List.mem_map_of_mem hx)
  obtain⟨y,hy,he⟩:=List.mem_map.1 hm
  rw[← he]
  exact d y hy
 ·have hbl:∀ (l:List CExpr),l.flatMap qbA=(l.map (qf0 l)).flatMap fun q=>qbk q.op q.binds q.alts:=by
   intro l
   rw[List.flatMap_map]
   rfl
  have hbl2:∀ (l m:List CExpr),m.flatMap qbA=(m.map (qf0 l)).flatMap fun q=>qbk q.op q.binds q.alts:=by
   intro l m
   rw[List.flatMap_map]
   rfl
  rw[hbl2 (qaQ (qaY e))]
  rw[hbl2 e] at f
  exact ((hp.flatMap_right _).nodup_iff).1 f
 ·rw[hg];exact g
def qlg (a b:List CExpr):Bool:=(qaJ a==0) && (qaJ b==0) && (qhj (qaY a) (qaY b) []).1
section
variable {L:Lib} (hC:CLib2 L)
include hC
theorem qq0 (a b:List CExpr) (ha:a.length<2 ^ 30) (hfa:∀ x∈a,NodeFit x) (hb:b.length<2 ^ 30) (hfb:∀ x∈b,NodeFit x) (h:Heap) :
  pcall L 133 [.list (a.map qam) none,.list (b.map qam) none] h=some (.val (.bool (qlg a b)),h):=by
 have hL:=hC.plain
 have hp:=hL.pure
 have hdA:=qaE a
 have hdB:=qaE b
 have hca:=qdM hC.toCLib a ha hfa
 have hcb:=qdM hC.toCLib b hb hfb
 refine qaW hL hC.f133 rfl ?_ h
 unfold qlg
 by_cases hz:qaJ a=0
 ·by_cases hy:qaJ b=0
  ·rw[hz] at hca
   rw[hy] at hcb
   obtain⟨hT,_,hdp,_⟩:=qbo hz
   obtain⟨hT',_,hdp',_⟩:=qbo hy
   obtain⟨hft,_⟩:=qd5 hz hfa
   obtain⟨hft',_⟩:=qd5 hy hfb
   have hg:=fun h=>hC.grow a h ha hfa hT hdp
   have hg':=fun h=>hC.grow b h hb hfb hT' hdp'
   have hs:=qoT hL hC.f139 hC.f232 hC.f189 hC.f164 (qaY a) (qaY b) hft hft'
   obtain⟨tc,htc,hdt⟩:=qbt (qaY a)
   obtain⟨tc',htc',hdt'⟩:=qbt (qaY b)
   rw[htc] at hg hs
   rw[htc'] at hg' hs
   rw[hz,hy]
   unfold fn133
   simp -implicitDefEqProofs only[ev_,aOp,opd,qaa,qax,qaw,qab,qaf,qan,qac,qae,qaj,↓reduceIte,reduceCtorEq,Nat.reduceEqDiff,qat,qak,hca,hcb,hg,hg',hs,hdA,hdB,hdt,hdt',qal L hp,hp]
  ·have hy':(qaJ b==0)=false:=by simpa using hy
   rw[hz] at hca
   rw[hz,hy']
   unfold fn133
   simp -implicitDefEqProofs only[ev_,aOp,opd,qaa,qax,qaw,qab,qaf,qan,qac,qae,qaj,↓reduceIte,reduceCtorEq,Nat.reduceEqDiff,qat,qak,hca,hcb,hy',hdA,hdB,qal L hp,hp]
 ·have hz':(qaJ a==0)=false:=by simpa using hz
  rw[hz']
  unfold fn133
  simp -implicitDefEqProofs only[ev_,aOp,opd,qaa,qax,qaw,qab,qaf,qan,qac,qae,qaj,↓reduceIte,reduceCtorEq,Nat.reduceEqDiff,qat,qak,hca,hz',hdA,hdB,qal L hp,hp]
end
section
end
section
end
theorem qhn {e:List CExpr} (h:TreeL e):∀ p,∀ j∈qbl e p,j<p:=by
 intro p j hj
 unfold qbl at hj
 cases hq:e[p]? with
 | none=>rw[hq] at hj;cases hj
 | some x =>
   rw[hq] at hj
   obtain⟨k,hk,rfl⟩:=List.mem_map.1 hj
   obtain⟨hp,rfl⟩:=List.getElem?_eq_some_iff.1 hq
   have:=h.ahead p hp k hk
   omega
theorem qvl (e:List CExpr) (hk:qeW e):∀ (i:Nat),i<e.length→∃ X:List Nat,qn2 (qbm e i)=X.map (qbm e)∧X.Perm (i::X.flatMap (qbl e))∧∀ x∈X,x≤i:=by
 intro i
 induction i using Nat.strongRecOn with
 | ind i ih =>
   intro hi
   have key:∀ ks:List Int,(∀ k∈ks,0≤k∧k<i)→∃ Y:List Nat,qe0 (ks.map fun k=>qbm e k.toNat)=Y.map (qbm e)∧Y.Perm (ks.map Int.toNat++Y.flatMap (qbl e))∧∀ y∈Y,y<i:=by
    intro ks
    induction ks with
    | nil=>intro _;exact⟨[],by rw[List.map_nil,qe0];rfl,.refl _,by simp⟩
    | cons k ks ihk =>
      intro h
      obtain⟨k0,k1⟩:=h k (by simp)
      obtain⟨Y,y1,y2,y3⟩:=ihk fun x hx=>h x (by simp[hx])
      obtain⟨X,x1,x2,x3⟩:=ih k.toNat (by omega) (by omega)
      refine⟨X++Y,by rw[List.map_cons,qe0,x1,y1,List.map_append],?_,fun z hz=>?_⟩
      ·rw[List.flatMap_append,List.map_cons,List.cons_append]
       refine (x2.append y2).trans ?_
       rw[List.cons_append]
       refine List.Perm.cons _ ?_
       rw[← List.append_assoc,← List.append_assoc]
       exact List.perm_append_comm.append_right _
      ·rcases List.mem_append.1 hz with hz | hz
       ·have:=x3 z hz;omega
       ·exact y3 z hz
   obtain⟨Y,y1,y2,y3⟩:=key e[i].kids (hk i hi)
   have hki:qbl e i=e[i].kids.map Int.toNat:=by unfold qbl;rw[List.getElem?_eq_getElem hi]
   refine⟨Y++[i],?_,?_,?_⟩
   ·rw[List.map_append,← y1]
    have h1:=qcM e hk i hi
    show _=_++[qbm e i]
    rw[h1,qn2]
   ·rw[List.flatMap_append,List.flatMap_cons,List.flatMap_nil,List.append_nil,hki]
    refine List.perm_append_comm.trans ?_
    rw[List.cons_append,List.nil_append]
    exact List.Perm.cons _ (y2.trans List.perm_append_comm)
   ·intro x hx
    rcases List.mem_append.1 hx with hx | hx
    ·have:=y3 x hx;omega
    ·have:=List.mem_singleton.1 hx;omega
theorem qtk (e:List CExpr) (h:TreeL e):(qn2 (qaY e)).Perm ((List.range e.length).map (qbm e)):=by
 have hpos:=h.pos
 obtain⟨X,x1,x2,x3⟩:=qvl e h.ahead (e.length-1) (by omega)
 have hperm:X.Perm (List.range e.length):=by
  rw[List.perm_iff_count]
  intro j
  by_cases hj:j<e.length
  ·exact (qe9 (qbl e) (qhn h) (e.length-1) e.length X (List.range e.length) x2 (qdT e h) (fun x hx=>by have:=x3 x hx;omega) (fun y hy=>List.mem_range.1 hy) (e.length-j) j (by omega)).1
  ·rw[List.count_eq_zero.2 (fun hm=>by have:=x3 j hm;omega),List.count_eq_zero.2 (fun hm=>by have:=List.mem_range.1 hm;omega)]
 rw[qg5,x1]
 exact hperm.map _
theorem qyN {e:List CExpr} (h:TreeL e) (n:Nat) (hn:n<e.length):qbm e n∈qn2 (qaY e) :=
 (qtk e h).mem_iff.2 (List.mem_map_of_mem (List.mem_range.2 hn))
mutual
theorem qp0:∀ (t s:CTree),s∈qn2 t→qaP s≤qaP t∧hgt s≤hgt t∧(qcP s).Sublist (qcP t)
 | .mk op n binds kids alts,s,h => by
   rw[qn2] at h
   rcases List.mem_append.1 h with h | h
   ·obtain⟨a,b,c⟩:=qnH kids s h
    refine⟨by rw[qaP];omega,by rw[hgt];omega,?_⟩
    rw[qcP]
    exact c.trans (List.sublist_append_left _ _)
   ·rw[List.mem_singleton.1 h]
    exact⟨Nat.le_refl _,Nat.le_refl _,List.Sublist.refl _⟩
theorem qnH:∀ (ks:List CTree) (s:CTree),s∈qe0 ks→qaP s≤qaC ks∧hgt s≤qdk ks∧(qcP s).Sublist (qdj ks)
 | [],s,h=>by rw[qe0] at h;cases h
 | k :: ks,s,h => by
   rw[qe0] at h
   rw[qaC,qdk,qdj]
   rcases List.mem_append.1 h with h | h
   ·obtain⟨a,b,c⟩:=qp0 k s h
    exact⟨by omega,by omega,c.trans (List.sublist_append_left _ _)⟩
   ·obtain⟨a,b,c⟩:=qnH ks s h
    exact⟨by omega,by omega,c.trans (List.sublist_append_right _ _)⟩
end
theorem qnF {α β:Type} (f:α→List β) {l m:List α} (h:l.Sublist m):(l.flatMap f).Sublist (m.flatMap f):=by
 induction h with
 | slnil=>exact List.Sublist.refl _
 | cons a _ ih=>rw[List.flatMap_cons];exact ih.trans (List.sublist_append_right _ _)
 | cons_cons a _ ih=>rw[List.flatMap_cons,List.flatMap_cons];exact (List.Sublist.refl _).append ih
def qpH (l:Lab):List Int:=qbk l.op l.binds l.alts
structure TOk (t:CTree):Prop where
 size:qaP t≤4096
 deep:hgt t≤400
 lab:∀ l∈qcP t,qb5 false l=0
 once:((qcP t).flatMap qpH).Nodup
theorem qx2 {t s:CTree} (h:TOk t) (hs:s∈qn2 t):TOk s:=by
 obtain⟨a,b,c⟩:=qp0 t s hs
 exact⟨by have:=h.size;omega,by have:=h.deep;omega,fun l hl=>h.lab l (c.subset hl),h.once.sublist (qnF _ c)⟩
theorem qoe (e l:List CExpr):l.flatMap qbA=(l.map (qf0 e)).flatMap qpH:=by
 rw[List.flatMap_map]
 rfl
theorem qyO {e:List CExpr} (h:qaJ e=0):TOk (qaY e):=by
 obtain⟨a,b,c,d,f,g⟩:=qbo h
 have hp:=qf3 e a
 refine⟨by rw[qf5 e a];exact b,c,fun l hl=>?_,?_⟩
 ·obtain⟨x,hx,rfl⟩:=List.mem_map.1 (hp.mem_iff.1 hl)
  exact d x hx
 ·rw[qoe e] at f
  exact ((hp.flatMap_right _).nodup_iff).2 f
theorem qj3 {e:List CExpr} (hz:qaJ e=0) (hf:∀ x∈e,NodeFit x) (n:Nat) (hn:n<e.length):TFit (qbm e n):=by
 obtain⟨hT,hn2,hh,hlab,_⟩:=qbo hz
 exact qoX e hT.ahead hf (qpI hT hn2 hlab) n hn
section
end
section
end
def NN (b:IM Int):Prop:=∀ u,0≤qd1 u b
theorem NN.up {b:IM Int} (h:NN b) (l:List Int):NN (l.foldl (qgf 1) b):=by
 intro u
 rw[qcS]
 have:=h u
 unfold qyk
 omega
end Go.Abs
