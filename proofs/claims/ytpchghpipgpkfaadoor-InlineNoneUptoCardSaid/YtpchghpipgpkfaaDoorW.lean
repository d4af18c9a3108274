/-
  PARTS OF A PROOF, joined: an abstract machine for quiet code, its evaluation, and what the seat's functions answer on it. Conditions: none.
-/
import Derived.Test.YtpchghpipgpkfaaDoorCS
import Derived.Test.YtpchghpipgpkfaaDoorC
set_option linter.unusedVariables false
set_option linter.unusedSimpArgs false
set_option maxRecDepth 100000
set_option maxHeartbeats 4000000
namespace Go.Abs
structure CLib2 (L:Lib):Prop extends CLib L where
 f132:L.fns 132=some fn132
 f133:L.fns 133=some fn133
 f139:L.fns 139=some fn139
 f154:L.fns 154=some fn154
 list:∀ (t:CTree),TFit t→qaR t<2 ^ 30→∀ h:Heap,pcall L 159 [qao t] h=some (.val (.list ((qa6 t).map qal) none),h)
 f161:L.fns 161=some fn161
 f162:L.fns 162=some fn162
 f163:L.fns 163=some fn163
 f164:L.fns 164=some fn164
 f177:L.fns 177=some fn177
 f183:L.fns 183=some fn183
 f189:L.fns 189=some fn189
def IdMap (m:IM Int):Prop:=∀ v w,qbu v m=some w→w=v
theorem IdMap.put {m:IM Int} (h:IdMap m) (v:Int):IdMap (qjf v v m):=by
 intro x w hx
 rw[qcR] at hx
 split at hx
 ·injection hx with hx
  omega
 ·exact h x w hx
theorem IdMap.zip:∀ (l:List Int) {m:IM Int},IdMap m→IdMap (qiI l l m)
 | [],m,h=>h
 | x::l,m,h=>IdMap.zip l (h.put x)
theorem qpy (as:List CAlt):qfu as as=false:=by
 cases hq:qfu as as with
 | false=>rfl
 | true =>
   obtain⟨i,hi,h⟩:=(qhj (qg7 as) as 0).1 hq
   unfold qg7 at h
   rw[Nat.zero_add,List.getElem?_eq_getElem hi] at h
   simp at h
mutual
theorem qoS:∀ (t:CTree) (m:IM Int),IdMap m→(qhM t t m).1=true∧IdMap (qhM t t m).2
 | .mk op n binds kids alts,m,h => by
   rw[qhM,if_neg (by simp)]
   by_cases h0:op=0
   ·rw[if_pos h0]
    refine⟨?_,h⟩
    unfold qqg
    cases hq:qbu n m with
    | none=>simp
    | some x=>have:=h n x hq;simp[this]
   ·rw[if_neg h0,if_neg (by simp),qpy,if_neg (by decide)]
    exact qmb kids _ (h.zip _)
theorem qmb:∀ (ks:List CTree) (m:IM Int),IdMap m→(qdq ks ks m).1=true∧IdMap (qdq ks ks m).2
 | [],m,h=>by rw[qdq];exact⟨rfl,h⟩
 | k :: ks,m,h => by
   obtain⟨h1,h2⟩:=qoS k m h
   rw[qdq]
   rcases hq:qhM k k m with ⟨b,m1⟩
   rw[hq] at h1 h2
   have h1:b=true:=h1
   subst h1
   exact qmb ks m1 h2
end
theorem qbc {e:List CExpr} (h:qaO e=0):TreeL e∧e.length≤4096∧hgt (qbr e)≤400∧(∀ x∈e,qbM false (qd0 e x)=0)∧(e.flatMap qbw).Nodup∧qgF (qbr e)=[]:=by
 unfold qaO qjy at h
 by_cases h1:qfh e=0
 ·rw[if_neg (fun hx=>hx h1)] at h
  obtain⟨a,b,c⟩:=(qfW e).1 h1
  by_cases h2:qbQ (e.map fun x=>qbM false (qd0 e x))=0
  ·rw[if_neg (fun hx=>hx h2)] at h
   rw[qkN] at h
   by_cases h3:(e.flatMap qbw).Nodup
   ·simp only[h3,decide_true,Bool.not_true,Bool.false_eq_true,if_false] at h
    refine⟨a,b,c,(qdC _ e).1 h2,h3,?_⟩
    cases hf:qgF (qbr e) with
    | nil=>rfl
    | cons n l=>rw[hf] at h;simp[qsw] at h
   ·simp only[h3,decide_false,Bool.not_false,if_true] at h
    cases h
  ·rw[if_pos h2] at h
   exact absurd h h2
 ·rw[if_pos h1] at h
  exact absurd h h1
theorem qvf {e:List CExpr} (a:TreeL e) (b:e.length≤4096) (c:hgt (qbr e)≤400) (d:∀ x∈e,qbM false (qd0 e x)=0) (f:(e.flatMap qbw).Nodup) (g:qgF (qbr e)=[]):qaO e=0:=by
 unfold qaO qjy
 rw[if_neg (fun hx=>hx ((qfW e).2 ⟨a,b,c⟩)),if_neg (fun hx=>hx ((qdC _ e).2 d)),qkN,g]
 simp[f]
theorem qq2 {e:List CExpr} (hT:TreeL e) (hn:e.length≤4096) (hz:∀ x∈e,qbM false (qd0 e x)=0):∀ x∈e,quW x:=by
 intro x hx
 have h0:=hz x hx
 unfold qbM at h0
 split at h0
 ·cases h0
 ·have:=qqH h0 (by unfold qd0;rw[List.length_map];have:=qtE e hT x hx;omega)
  unfold quW
  unfold qd0 at this
  dsimp only at this
  omega
theorem qdQ {e:List CExpr} (h:qaO e=0) (hf:∀ x∈e,NodeFit x):TFit (qbr e)∧qaR (qbr e)=e.length:=by
 obtain⟨a,b,c,d,_,_⟩:=qbc h
 exact⟨qqc e a.ahead hf (qq2 a b d) _ (by have:=a.pos;omega),qgu e a⟩
mutual
theorem qd8:∀ (t:CTree) (b:Nat),TFit t→∀ x∈qeg t b,NodeFit x
 | .mk op n binds kids alts,b,h => by
   cases h with
   | mk _ _ _ _ _ hb hk ha hfk =>
     rw[qeg]
     intro x hx
     rcases List.mem_append.1 hx with hx | hx
     ·exact qod kids b hfk x hx
     ·rw[List.mem_singleton.1 hx]
      rw[List.length_append] at hb
      exact⟨by dsimp only;omega,by dsimp only;rw[qkB];exact hk,ha,fun a hm=>by have:=qhl alts hm;omega⟩
theorem qod:∀ (ks:List CTree) (b:Nat),(∀ k∈ks,TFit k)→∀ x∈qbq ks b,NodeFit x
 | [],b,_=>by rw[qbq];intro x hx;cases hx
 | k :: ks,b,h => by
   rw[qbq]
   intro x hx
   rcases List.mem_append.1 hx with hx | hx
   ·exact qd8 k b (h k (by simp)) x hx
   ·exact qod ks _ (fun y hy=>h y (by simp[hy])) x hx
end
theorem qhZ {e:List CExpr} (h:qaO e=0):qaO (qa6 (qbr e))=0:=by
 obtain⟨a,b,c,d,f,g⟩:=qbc h
 have hT:=qkK (qbr e)
 have hg:=qcK (qbr e)
 have hp1:=qc8 e a
 have hp2:=qc8 _ hT
 rw[hg] at hp2
 have hp:(e.map (qd0 e)).Perm ((qa6 (qbr e)).map (qd0 (qa6 (qbr e)))):=hp1.symm.trans hp2
 refine qvf hT ?_ ?_ ?_ ?_ ?_
 ·unfold qa6
  rw[qcV,qgu e a]
  exact b
 ·rw[hg];exact c
 ·intro x hx
  have hm:qd0 (qa6 (qbr e)) x∈e.map (qd0 e):=hp.mem_iff.2 (List.mem_map_of_mem hx)
  obtain⟨y,hy,he⟩:=List.mem_map.1 hm
  rw[← he]
  exact d y hy
 ·have hbl:∀ (l:List CExpr),l.flatMap qbw=(l.map (qd0 l)).flatMap fun q=>qaN q.op q.binds q.alts:=by
   intro l
   rw[List.flatMap_map]
   rfl
  have hbl2:∀ (l m:List CExpr),m.flatMap qbw=(m.map (qd0 l)).flatMap fun q=>qaN q.op q.binds q.alts:=by
   intro l m
   rw[List.flatMap_map]
   rfl
  rw[hbl2 (qa6 (qbr e))]
  rw[hbl2 e] at f
  exact ((hp.flatMap_right _).nodup_iff).1 f
 ·rw[hg];exact g
def qro (a b:List CExpr):Bool:=(qaO a==0) && (qaO b==0) && (qhM (qbr a) (qbr b) []).1
section
variable {L:Lib} (hC:CLib2 L)
include hC
theorem qsl (a b:List CExpr) (ha:a.length<2 ^ 30) (hfa:∀ x∈a,NodeFit x) (hb:b.length<2 ^ 30) (hfb:∀ x∈b,NodeFit x) (h:Heap) :
  pcall L 133 [.list (a.map qal) none,.list (b.map qal) none] h=some (.val (.bool (qro a b)),h):=by
 have hL:=hC.plain
 have hp:=hL.pure
 have hdA:=qaD a
 have hdB:=qaD b
 have hca:=qd3 hC.toCLib a ha hfa
 have hcb:=qd3 hC.toCLib b hb hfb
 refine qaV hL hC.f133 rfl ?_ h
 unfold qro
 by_cases hz:qaO a=0
 ·by_cases hy:qaO b=0
  ·rw[hz] at hca
   rw[hy] at hcb
   obtain⟨hT,_,hdp,_⟩:=qbc hz
   obtain⟨hT',_,hdp',_⟩:=qbc hy
   obtain⟨hft,_⟩:=qdQ hz hfa
   obtain⟨hft',_⟩:=qdQ hy hfb
   have hg:=fun h=>hC.grow a h ha hfa hT hdp
   have hg':=fun h=>hC.grow b h hb hfb hT' hdp'
   have hs:=qp9 hL hC.f139 hC.f232 hC.f189 hC.f164 (qbr a) (qbr b) hft hft'
   obtain⟨tc,htc,hdt⟩:=qbz (qbr a)
   obtain⟨tc',htc',hdt'⟩:=qbz (qbr b)
   rw[htc] at hg hs
   rw[htc'] at hg' hs
   rw[hz,hy]
   unfold fn133
   simp -implicitDefEqProofs only[ev_,aOp,opd,qaa,qaA,qaz,qab,qae,qap,qac,qaf,qaj,↓reduceIte,reduceCtorEq,Nat.reduceEqDiff,qav,qak,hca,hcb,hg,hg',hs,hdA,hdB,hdt,hdt',qam L hp,hp]
  ·have hy':(qaO b==0)=false:=by simpa using hy
   rw[hz] at hca
   rw[hz,hy']
   unfold fn133
   simp -implicitDefEqProofs only[ev_,aOp,opd,qaa,qaA,qaz,qab,qae,qap,qac,qaf,qaj,↓reduceIte,reduceCtorEq,Nat.reduceEqDiff,qav,qak,hca,hcb,hy',hdA,hdB,qam L hp,hp]
 ·have hz':(qaO a==0)=false:=by simpa using hz
  rw[hz']
  unfold fn133
  simp -implicitDefEqProofs only[ev_,aOp,opd,qaa,qaA,qaz,qab,qae,qap,qac,qaf,qaj,↓reduceIte,reduceCtorEq,Nat.reduceEqDiff,qav,qak,hca,hz',hdA,hdB,qam L hp,hp]
end
section
end
section
end
theorem qhQ {e:List CExpr} (h:TreeL e):∀ p,∀ j∈qbl e p,j<p:=by
 intro p j hj
 unfold qbl at hj
 cases hq:e[p]? with
 | none=>rw[hq] at hj;cases hj
 | some x =>
   rw[hq] at hj
   obtain⟨k,hk,rfl⟩:=List.mem_map.1 hj
   obtain⟨hp,rfl⟩:=List.getElem?_eq_some_iff.1 hq
   have:=h.ahead p hp k hk
   omega
theorem qwl (e:List CExpr) (hk:qdz e):∀ (i:Nat),i<e.length→∃ X:List Nat,qps (qaW e i)=X.map (qaW e)∧X.Perm (i::X.flatMap (qbl e))∧∀ x∈X,x≤i:=by
 intro i
 induction i using Nat.strongRecOn with
 | ind i ih =>
   intro hi
   have key:∀ ks:List Int,(∀ k∈ks,0≤k∧k<i)→∃ Y:List Nat,qfr (ks.map fun k=>qaW e k.toNat)=Y.map (qaW e)∧Y.Perm (ks.map Int.toNat++Y.flatMap (qbl e))∧∀ y∈Y,y<i:=by
    intro ks
    induction ks with
    | nil=>intro _;exact⟨[],by rw[List.map_nil,qfr];rfl,.refl _,by simp⟩
    | cons k ks ihk =>
      intro h
      obtain⟨k0,k1⟩:=h k (by simp)
      obtain⟨Y,y1,y2,y3⟩:=ihk fun x hx=>h x (by simp[hx])
      obtain⟨X,x1,x2,x3⟩:=ih k.toNat (by omega) (by omega)
      refine⟨X++Y,by rw[List.map_cons,qfr,x1,y1,List.map_append],?_,fun z hz=>?_⟩
      ·rw[List.flatMap_append,List.map_cons,List.cons_append]
       refine (x2.append y2).trans ?_
       rw[List.cons_append]
       refine List.Perm.cons _ ?_
       rw[← List.append_assoc,← List.append_assoc]
       exact List.perm_append_comm.append_right _
      ·rcases List.mem_append.1 hz with hz | hz
       ·have:=x3 z hz;omega
       ·exact y3 z hz
   obtain⟨Y,y1,y2,y3⟩:=key e[i].kids (hk i hi)
   have hki:qbl e i=e[i].kids.map Int.toNat:=by unfold qbl;rw[List.getElem?_eq_getElem hi]
   refine⟨Y++[i],?_,?_,?_⟩
   ·rw[List.map_append,← y1]
    have h1:=qc0 e hk i hi
    show _=_++[qaW e i]
    rw[h1,qps]
   ·rw[List.flatMap_append,List.flatMap_cons,List.flatMap_nil,List.append_nil,hki]
    refine List.perm_append_comm.trans ?_
    rw[List.cons_append,List.nil_append]
    exact List.Perm.cons _ (y2.trans List.perm_append_comm)
   ·intro x hx
    rcases List.mem_append.1 hx with hx | hx
    ·have:=y3 x hx;omega
    ·have:=List.mem_singleton.1 hx;omega
theorem quz (e:List CExpr) (h:TreeL e):(qps (qbr e)).Perm ((List.range e.length).map (qaW e)):=by
 have hpos:=h.pos
 obtain⟨X,x1,x2,x3⟩:=qwl e h.ahead (e.length-1) (by omega)
 have hperm:X.Perm (List.range e.length):=by
  rw[List.perm_iff_count]
  intro j
  by_cases hj:j<e.length
  ·exact (qfA (qbl e) (qhQ h) (e.length-1) e.length X (List.range e.length) x2 (qd9 e h) (fun x hx=>by have:=x3 x hx;omega) (fun y hy=>List.mem_range.1 hy) (e.length-j) j (by omega)).1
  ·rw[List.count_eq_zero.2 (fun hm=>by have:=x3 j hm;omega),List.count_eq_zero.2 (fun hm=>by have:=List.mem_range.1 hm;omega)]
 rw[qe1,x1]
 exact hperm.map _
theorem qwP {e:List CExpr} (h:TreeL e) (n:Nat) (hn:n<e.length):qaW e n∈qps (qbr e) :=
 (quz e h).mem_iff.2 (List.mem_map_of_mem (List.mem_range.2 hn))
mutual
theorem qrq:∀ (t s:CTree),s∈qps t→qaR s≤qaR t∧hgt s≤hgt t∧(qbG s).Sublist (qbG t)
 | .mk op n binds kids alts,s,h => by
   rw[qps] at h
   rcases List.mem_append.1 h with h | h
   ·obtain⟨a,b,c⟩:=qo4 kids s h
    refine⟨by rw[qaR];omega,by rw[hgt];omega,?_⟩
    rw[qbG]
    exact c.trans (List.sublist_append_left _ _)
   ·rw[List.mem_singleton.1 h]
    exact⟨Nat.le_refl _,Nat.le_refl _,List.Sublist.refl _⟩
theorem qo4:∀ (ks:List CTree) (s:CTree),s∈qfr ks→qaR s≤qaC ks∧hgt s≤qdi ks∧(qbG s).Sublist (qbB ks)
 | [],s,h=>by rw[qfr] at h;cases h
 | k :: ks,s,h => by
   rw[qfr] at h
   rw[qaC,qdi,qbB]
   rcases List.mem_append.1 h with h | h
   ·obtain⟨a,b,c⟩:=qrq k s h
    exact⟨by omega,by omega,c.trans (List.sublist_append_left _ _)⟩
   ·obtain⟨a,b,c⟩:=qo4 ks s h
    exact⟨by omega,by omega,c.trans (List.sublist_append_right _ _)⟩
end
theorem qo2 {α β:Type} (f:α→List β) {l m:List α} (h:l.Sublist m):(l.flatMap f).Sublist (m.flatMap f):=by
 induction h with
 | slnil=>exact List.Sublist.refl _
 | cons a _ ih=>rw[List.flatMap_cons];exact ih.trans (List.sublist_append_right _ _)
 | cons_cons a _ ih=>rw[List.flatMap_cons,List.flatMap_cons];exact (List.Sublist.refl _).append ih
def qbF (l:Lab):List Int:=qaN l.op l.binds l.alts
structure TOk (t:CTree):Prop where
 size:qaR t≤4096
 deep:hgt t≤400
 lab:∀ l∈qbG t,qbM false l=0
 once:((qbG t).flatMap qbF).Nodup
theorem quD {t s:CTree} (h:TOk t) (hs:s∈qps t):TOk s:=by
 obtain⟨a,b,c⟩:=qrq t s hs
 exact⟨by have:=h.size;omega,by have:=h.deep;omega,fun l hl=>h.lab l (c.subset hl),h.once.sublist (qo2 _ c)⟩
theorem qjx (e l:List CExpr):l.flatMap qbw=(l.map (qd0 e)).flatMap qbF:=by
 rw[List.flatMap_map]
 rfl
theorem qwR {e:List CExpr} (h:qaO e=0):TOk (qbr e):=by
 obtain⟨a,b,c,d,f,g⟩:=qbc h
 have hp:=qc8 e a
 refine⟨by rw[qgu e a];exact b,c,fun l hl=>?_,?_⟩
 ·obtain⟨x,hx,rfl⟩:=List.mem_map.1 (hp.mem_iff.1 hl)
  exact d x hx
 ·rw[qjx e] at f
  exact ((hp.flatMap_right _).nodup_iff).2 f
theorem qfU {e:List CExpr} (hz:qaO e=0) (hf:∀ x∈e,NodeFit x) (n:Nat) (hn:n<e.length):TFit (qaW e n):=by
 obtain⟨hT,hn2,hh,hlab,_⟩:=qbc hz
 exact qqc e hT.ahead hf (qq2 hT hn2 hlab) n hn
section
end
section
end
def NN (b:IM Int):Prop:=∀ u,0≤qdf u b
theorem NN.up {b:IM Int} (h:NN b) (l:List Int):NN (l.foldl (qhD 1) b):=by
 intro u
 rw[qdK]
 have:=h u
 unfold qz5
 omega
end Go.Abs
