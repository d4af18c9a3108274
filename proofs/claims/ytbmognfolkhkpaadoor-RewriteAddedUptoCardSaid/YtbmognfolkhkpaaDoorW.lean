/-
  PARTS OF A PROOF, joined: an abstract machine for quiet code, its evaluation, and what the seat's functions answer on it. Conditions: none.
-/
import Derived.Test.YtbmognfolkhkpaaDoorCS
import Derived.Test.YtbmognfolkhkpaaDoorC
set_option linter.unusedVariables false
set_option linter.unusedSimpArgs false
set_option maxRecDepth 100000
set_option maxHeartbeats 4000000
namespace Go.Abs
structure CLib2 (L:Lib):Prop extends CLib L where
 f132:L.fns 132=some fn132
 f133:L.fns 133=some fn133
 f139:L.fns 139=some fn139
 f154:L.fns 154=some fn154
 list:∀ (t:CTree),TFit t→qbv t<2 ^ 30→∀ h:Heap,pcall L 159 [qaW t] h=some (.val (.list ((qbN t).map qaP) none),h)
 f161:L.fns 161=some fn161
 f162:L.fns 162=some fn162
 f163:L.fns 163=some fn163
 f164:L.fns 164=some fn164
 f177:L.fns 177=some fn177
 f183:L.fns 183=some fn183
 f189:L.fns 189=some fn189
def IdMap (m:IM Int):Prop:=∀ v w,qcP v m=some w→w=v
theorem IdMap.put {m:IM Int} (h:IdMap m) (v:Int):IdMap (qo4 v v m):=by
 intro x w hx
 rw[qil] at hx
 split at hx
 ·injection hx with hx
  omega
 ·exact h x w hx
theorem IdMap.zip:∀ (l:List Int) {m:IM Int},IdMap m→IdMap (qjG l l m)
 | [],m,h=>h
 | x::l,m,h=>IdMap.zip l (h.put x)
theorem qo9 (as:List CAlt):qgs as as=false:=by
 cases hq:qgs as as with
 | false=>rfl
 | true =>
   obtain⟨i,hi,h⟩:=(qim (qia as) as 0).1 hq
   unfold qia at h
   rw[Nat.zero_add,List.getElem?_eq_getElem hi] at h
   simp at h
mutual
theorem qoz:∀ (t:CTree) (m:IM Int),IdMap m→(qiQ t t m).1=true∧IdMap (qiQ t t m).2
 | .mk op n binds kids alts,m,h => by
   rw[qiQ,if_neg (by simp)]
   by_cases h0:op=0
   ·rw[if_pos h0]
    refine⟨?_,h⟩
    unfold qpQ
    cases hq:qcP n m with
    | none=>simp
    | some x=>have:=h n x hq;simp[this]
   ·rw[if_neg h0,if_neg (by simp),qo9,if_neg (by decide)]
    exact qmp kids _ (h.zip _)
theorem qmp:∀ (ks:List CTree) (m:IM Int),IdMap m→(qeD ks ks m).1=true∧IdMap (qeD ks ks m).2
 | [],m,h=>by rw[qeD];exact⟨rfl,h⟩
 | k :: ks,m,h => by
   obtain⟨h1,h2⟩:=qoz k m h
   rw[qeD]
   rcases hq:qiQ k k m with ⟨b,m1⟩
   rw[hq] at h1 h2
   have h1:b=true:=h1
   subst h1
   exact qmp ks m1 h2
end
theorem qcJ {e:List CExpr} (h:qbH e=0):TreeL e∧e.length≤4096∧hgt (qb2 e)≤400∧(∀ x∈e,qdm false (qgI e x)=0)∧(e.flatMap qbQ).Nodup∧qgl (qb2 e)=[]:=by
 unfold qbH qkr at h
 by_cases h1:qgj e=0
 ·rw[if_neg (fun hx=>hx h1)] at h
  obtain⟨a,b,c⟩:=(qgV e).1 h1
  by_cases h2:qcR (e.map fun x=>qdm false (qgI e x))=0
  ·rw[if_neg (fun hx=>hx h2)] at h
   rw[qlp] at h
   by_cases h3:(e.flatMap qbQ).Nodup
   ·simp only[h3,decide_true,Bool.not_true,Bool.false_eq_true,if_false] at h
    refine⟨a,b,c,(qeO _ e).1 h2,h3,?_⟩
    cases hf:qgl (qb2 e) with
    | nil=>rfl
    | cons n l=>rw[hf] at h;simp[qrC] at h
   ·simp only[h3,decide_false,Bool.not_false,if_true] at h
    cases h
  ·rw[if_pos h2] at h
   exact absurd h h2
 ·rw[if_pos h1] at h
  exact absurd h h1
theorem qt4 {e:List CExpr} (a:TreeL e) (b:e.length≤4096) (c:hgt (qb2 e)≤400) (d:∀ x∈e,qdm false (qgI e x)=0) (f:(e.flatMap qbQ).Nodup) (g:qgl (qb2 e)=[]):qbH e=0:=by
 unfold qbH qkr
 rw[if_neg (fun hx=>hx ((qgV e).2 ⟨a,b,c⟩)),if_neg (fun hx=>hx ((qeO _ e).2 d)),qlp,g]
 simp[f]
theorem qmV {e:List CExpr} (hT:TreeL e) (hn:e.length≤4096) (hz:∀ x∈e,qdm false (qgI e x)=0):∀ x∈e,qqL x:=by
 intro x hx
 have h0:=hz x hx
 unfold qdm at h0
 split at h0
 ·cases h0
 ·have:=qqe h0 (by unfold qgI;rw[List.length_map];have:=qsD e hT x hx;omega)
  unfold qqL
  unfold qgI at this
  dsimp only at this
  omega
theorem qgx {e:List CExpr} (h:qbH e=0) (hf:∀ x∈e,NodeFit x):TFit (qb2 e)∧qbv (qb2 e)=e.length:=by
 obtain⟨a,b,c,d,_,_⟩:=qcJ h
 exact⟨qpM e a.ahead hf (qmV a b d) _ (by have:=a.pos;omega),qhx e a⟩
mutual
theorem qiK:∀ (t:CTree) (b:Nat),TFit t→∀ x∈qdH t b,NodeFit x
 | .mk op n binds kids alts,b,h => by
   cases h with
   | mk _ _ _ _ _ hb hk ha hfk =>
     rw[qdH]
     intro x hx
     rcases List.mem_append.1 hx with hx | hx
     ·exact qn8 kids b hfk x hx
     ·rw[List.mem_singleton.1 hx]
      rw[List.length_append] at hb
      exact⟨by dsimp only;omega,by dsimp only;rw[qfa];exact hk,ha,fun a hm=>by have:=qjX alts hm;omega⟩
theorem qn8:∀ (ks:List CTree) (b:Nat),(∀ k∈ks,TFit k)→∀ x∈qbs ks b,NodeFit x
 | [],b,_=>by rw[qbs];intro x hx;cases hx
 | k :: ks,b,h => by
   rw[qbs]
   intro x hx
   rcases List.mem_append.1 hx with hx | hx
   ·exact qiK k b (h k (by simp)) x hx
   ·exact qn8 ks _ (fun y hy=>h y (by simp[hy])) x hx
end
theorem qlU {e:List CExpr} (h:qbH e=0):qbH (qbN (qb2 e))=0:=by
 obtain⟨a,b,c,d,f,g⟩:=qcJ h
 have hT:=qoQ (qb2 e)
 have hg:=qhq (qb2 e)
 have hp1:=qhs e a
 have hp2:=qhs _ hT
 rw[hg] at hp2
 have hp:(e.map (qgI e)).Perm ((qbN (qb2 e)).map (qgI (qbN (qb2 e)))):=hp1.symm.trans hp2
 refine qt4 hT ?_ ?_ ?_ ?_ ?_
 ·unfold qbN
  rw[qdz,qhx e a]
  exact b
 ·rw[hg];exact c
 ·intro x hx
  have hm:qgI (qbN (qb2 e)) x∈e.map (qgI e):=hp.mem_iff.2 (List.mem_map_of_mem hx)
  obtain⟨y,hy,he⟩:=List.mem_map.1 hm
  rw[← he]
  exact d y hy
 ·have hbl:∀ (l:List CExpr),l.flatMap qbQ=(l.map (qgI l)).flatMap fun q=>qb3 q.op q.binds q.alts:=by
   intro l
   rw[List.flatMap_map]
   rfl
  have hbl2:∀ (l m:List CExpr),m.flatMap qbQ=(m.map (qgI l)).flatMap fun q=>qb3 q.op q.binds q.alts:=by
   intro l m
   rw[List.flatMap_map]
   rfl
  rw[hbl2 (qbN (qb2 e))]
  rw[hbl2 e] at f
  exact ((hp.flatMap_right _).nodup_iff).1 f
 ·rw[hg];exact g
def qqG (a b:List CExpr):Bool:=(qbH a==0) && (qbH b==0) && (qiQ (qb2 a) (qb2 b) []).1
section
variable {L:Lib} (hC:CLib2 L)
include hC
theorem qrs (a b:List CExpr) (ha:a.length<2 ^ 30) (hfa:∀ x∈a,NodeFit x) (hb:b.length<2 ^ 30) (hfb:∀ x∈b,NodeFit x) (h:Heap) :
  pcall L 133 [.list (a.map qaP) none,.list (b.map qaP) none] h=some (.val (.bool (qqG a b)),h):=by
 have hL:=hC.plain
 have hp:=hL.pure
 have hdA:=qbg a
 have hdB:=qbg b
 have hca:=qg2 hC.toCLib a ha hfa
 have hcb:=qg2 hC.toCLib b hb hfb
 refine qbK hL hC.f133 rfl ?_ h
 unfold qqG
 by_cases hz:qbH a=0
 ·by_cases hy:qbH b=0
  ·rw[hz] at hca
   rw[hy] at hcb
   obtain⟨hT,_,hdp,_⟩:=qcJ hz
   obtain⟨hT',_,hdp',_⟩:=qcJ hy
   obtain⟨hft,_⟩:=qgx hz hfa
   obtain⟨hft',_⟩:=qgx hy hfb
   have hg:=fun h=>hC.grow a h ha hfa hT hdp
   have hg':=fun h=>hC.grow b h hb hfb hT' hdp'
   have hs:=qpJ hL hC.f139 hC.f232 hC.f189 hC.f164 (qb2 a) (qb2 b) hft hft'
   obtain⟨tc,htc,hdt⟩:=qcH (qb2 a)
   obtain⟨tc',htc',hdt'⟩:=qcH (qb2 b)
   rw[htc] at hg hs
   rw[htc'] at hg' hs
   rw[hz,hy]
   unfold fn133
   simp -implicitDefEqProofs only[qad,qae,qap,qac,qau,qah,aOp,opd,qai,qak,qag,qbb,qba,qaj,qaw,qaT,qan,qax,qaH,qbo,qbf,qbD,qaa,qaQ,qav,qao,beq_self_eq_true,Option.getD_some,List.map_cons,List.map_nil,List.getElem?_cons_zero,List.getElem?_cons_succ,↓reduceIte,Bool.and_true,Bool.true_and,Bool.false_eq_true,and_self,reduceCtorEq,Nat.reduceEqDiff,qa7,qaI,hca,hcb,hg,hg',hs,hdA,hdB,hdt,hdt',qaN L hp,hp]
  ·have hy':(qbH b==0)=false:=by simpa using hy
   rw[hz] at hca
   rw[hz,hy']
   unfold fn133
   simp -implicitDefEqProofs only[qad,qae,qap,qac,qau,qah,aOp,opd,qai,qak,qag,qbb,qba,qaj,qaw,qaT,qan,qax,qaH,qbo,qbf,qaa,qav,qao,qb9,beq_self_eq_true,Option.getD_some,List.map_cons,List.map_nil,List.getElem?_cons_zero,List.getElem?_cons_succ,↓reduceIte,Bool.and_true,Bool.and_false,Bool.false_and,Bool.false_eq_true,and_self,reduceCtorEq,Nat.reduceEqDiff,qa7,qaI,hca,hcb,hy',hdA,hdB,qaN L hp,hp]
 ·have hz':(qbH a==0)=false:=by simpa using hz
  rw[hz']
  unfold fn133
  simp -implicitDefEqProofs only[qad,qae,qap,qac,qau,qah,aOp,opd,qai,qak,qag,qbb,qba,qaj,qaw,qaT,qan,qax,qaH,qbo,qbf,qaa,qav,qao,qb9,Option.getD_some,List.map_cons,List.map_nil,List.getElem?_cons_zero,↓reduceIte,Bool.and_true,Bool.false_and,Bool.false_eq_true,and_self,reduceCtorEq,Nat.reduceEqDiff,qa7,qaI,hca,hz',hdA,hdB,qaN L hp,hp]
end
section
end
section
end
theorem qiV {e:List CExpr} (h:TreeL e):∀ p,∀ j∈qcq e p,j<p:=by
 intro p j hj
 unfold qcq at hj
 cases hq:e[p]? with
 | none=>rw[hq] at hj;cases hj
 | some x =>
   rw[hq] at hj
   obtain⟨k,hk,rfl⟩:=List.mem_map.1 hj
   obtain⟨hp,rfl⟩:=List.getElem?_eq_some_iff.1 hq
   have:=h.ahead p hp k hk
   omega
theorem qvi (e:List CExpr) (hk:qfn e):∀ (i:Nat),i<e.length→∃ X:List Nat,qo5 (qcw e i)=X.map (qcw e)∧X.Perm (i::X.flatMap (qcq e))∧∀ x∈X,x≤i:=by
 intro i
 induction i using Nat.strongRecOn with
 | ind i ih =>
   intro hi
   have key:∀ ks:List Int,(∀ k∈ks,0≤k∧k<i)→∃ Y:List Nat,qgq (ks.map fun k=>qcw e k.toNat)=Y.map (qcw e)∧Y.Perm (ks.map Int.toNat++Y.flatMap (qcq e))∧∀ y∈Y,y<i:=by
    intro ks
    induction ks with
    | nil=>intro _;exact⟨[],by rw[List.map_nil,qgq];rfl,.refl _,by simp⟩
    | cons k ks ihk =>
      intro h
      obtain⟨k0,k1⟩:=h k (by simp)
      obtain⟨Y,y1,y2,y3⟩:=ihk fun x hx=>h x (by simp[hx])
      obtain⟨X,x1,x2,x3⟩:=ih k.toNat (by omega) (by omega)
      refine⟨X++Y,by rw[List.map_cons,qgq,x1,y1,List.map_append],?_,fun z hz=>?_⟩
      ·rw[List.flatMap_append,List.map_cons,List.cons_append]
       refine (x2.append y2).trans ?_
       rw[List.cons_append]
       refine List.Perm.cons _ ?_
       rw[← List.append_assoc,← List.append_assoc]
       exact List.perm_append_comm.append_right _
      ·rcases List.mem_append.1 hz with hz | hz
       ·have:=x3 z hz;omega
       ·exact y3 z hz
   obtain⟨Y,y1,y2,y3⟩:=key e[i].kids (hk i hi)
   have hki:qcq e i=e[i].kids.map Int.toNat:=by unfold qcq;rw[List.getElem?_eq_getElem hi]
   refine⟨Y++[i],?_,?_,?_⟩
   ·rw[List.map_append,← y1]
    have h1:=qdK e hk i hi
    show _=_++[qcw e i]
    rw[h1,qo5]
   ·rw[List.flatMap_append,List.flatMap_cons,List.flatMap_nil,List.append_nil,hki]
    refine List.perm_append_comm.trans ?_
    rw[List.cons_append,List.nil_append]
    exact List.Perm.cons _ (y2.trans List.perm_append_comm)
   ·intro x hx
    rcases List.mem_append.1 hx with hx | hx
    ·have:=y3 x hx;omega
    ·have:=List.mem_singleton.1 hx;omega
theorem qtp (e:List CExpr) (h:TreeL e):(qo5 (qb2 e)).Perm ((List.range e.length).map (qcw e)):=by
 have hpos:=h.pos
 obtain⟨X,x1,x2,x3⟩:=qvi e h.ahead (e.length-1) (by omega)
 have hperm:X.Perm (List.range e.length):=by
  rw[List.perm_iff_count]
  intro j
  by_cases hj:j<e.length
  ·exact (qgA (qcq e) (qiV h) (e.length-1) e.length X (List.range e.length) x2 (qfk e h) (fun x hx=>by have:=x3 x hx;omega) (fun y hy=>List.mem_range.1 hy) (e.length-j) j (by omega)).1
  ·rw[List.count_eq_zero.2 (fun hm=>by have:=x3 j hm;omega),List.count_eq_zero.2 (fun hm=>by have:=List.mem_range.1 hm;omega)]
 rw[qfi,x1]
 exact hperm.map _
theorem qyp {e:List CExpr} (h:TreeL e) (n:Nat) (hn:n<e.length):qcw e n∈qo5 (qb2 e) :=
 (qtp e h).mem_iff.2 (List.mem_map_of_mem (List.mem_range.2 hn))
mutual
theorem qqH:∀ (t s:CTree),s∈qo5 t→qbv s≤qbv t∧hgt s≤hgt t∧(qdI s).Sublist (qdI t)
 | .mk op n binds kids alts,s,h => by
   rw[qo5] at h
   rcases List.mem_append.1 h with h | h
   ·obtain⟨a,b,c⟩:=qoL kids s h
    refine⟨by rw[qbv];omega,by rw[hgt];omega,?_⟩
    rw[qdI]
    exact c.trans (List.sublist_append_left _ _)
   ·rw[List.mem_singleton.1 h]
    exact⟨Nat.le_refl _,Nat.le_refl _,List.Sublist.refl _⟩
theorem qoL:∀ (ks:List CTree) (s:CTree),s∈qgq ks→qbv s≤qa6 ks∧hgt s≤qeL ks∧(qdI s).Sublist (qea ks)
 | [],s,h=>by rw[qgq] at h;cases h
 | k :: ks,s,h => by
   rw[qgq] at h
   rw[qa6,qeL,qea]
   rcases List.mem_append.1 h with h | h
   ·obtain⟨a,b,c⟩:=qqH k s h
    exact⟨by omega,by omega,c.trans (List.sublist_append_left _ _)⟩
   ·obtain⟨a,b,c⟩:=qoL ks s h
    exact⟨by omega,by omega,c.trans (List.sublist_append_right _ _)⟩
end
theorem qoJ {α β:Type} (f:α→List β) {l m:List α} (h:l.Sublist m):(l.flatMap f).Sublist (m.flatMap f):=by
 induction h with
 | slnil=>exact List.Sublist.refl _
 | cons a _ ih=>rw[List.flatMap_cons];exact ih.trans (List.sublist_append_right _ _)
 | cons_cons a _ ih=>rw[List.flatMap_cons,List.flatMap_cons];exact (List.Sublist.refl _).append ih
def qka (l:Lab):List Int:=qb3 l.op l.binds l.alts
structure TOk (t:CTree):Prop where
 size:qbv t≤4096
 deep:hgt t≤400
 lab:∀ l∈qdI t,qdm false l=0
 once:((qdI t).flatMap qka).Nodup
theorem qxL {t s:CTree} (h:TOk t) (hs:s∈qo5 t):TOk s:=by
 obtain⟨a,b,c⟩:=qqH t s hs
 exact⟨by have:=h.size;omega,by have:=h.deep;omega,fun l hl=>h.lab l (c.subset hl),h.once.sublist (qoJ _ c)⟩
theorem qpe (e l:List CExpr):l.flatMap qbQ=(l.map (qgI e)).flatMap qka:=by
 rw[List.flatMap_map]
 rfl
theorem qyq {e:List CExpr} (h:qbH e=0):TOk (qb2 e):=by
 obtain⟨a,b,c,d,f,g⟩:=qcJ h
 have hp:=qhs e a
 refine⟨by rw[qhx e a];exact b,c,fun l hl=>?_,?_⟩
 ·obtain⟨x,hx,rfl⟩:=List.mem_map.1 (hp.mem_iff.1 hl)
  exact d x hx
 ·rw[qpe e] at f
  exact ((hp.flatMap_right _).nodup_iff).2 f
theorem qoP {e:List CExpr} (hz:qbH e=0) (hf:∀ x∈e,NodeFit x) (n:Nat) (hn:n<e.length):TFit (qcw e n):=by
 obtain⟨hT,hn2,hh,hlab,_⟩:=qcJ hz
 exact qpM e hT.ahead hf (qmV hT hn2 hlab) n hn
section
end
section
end
mutual
def qke (v:Int):CTree→Prop
 | .mk op n binds kids alts=>(op=0∧n=v)∨qfe v op binds alts kids 0
def qfe (v op:Int) (binds:List Int) (alts:List CAlt):List CTree→Nat→Prop
 | [],_=>False
 | k::ks,i=>(qke v k∧v∉qcM op binds alts i)∨qfe v op binds alts ks (i+1)
end
theorem qjy (v op:Int) (binds:List Int) (alts:List CAlt):∀ (ks:List CTree) (i:Nat),qfe v op binds alts ks i↔∃ j,∃ hj:j<ks.length,qke v ks[j]∧v∉qcM op binds alts (i+j)
 | [],i=>by rw[qfe];simp
 | k :: ks,i => by
   rw[qfe,qjy v op binds alts ks (i+1)]
   constructor
   ·rintro (h | ⟨j,hj,h⟩)
    ·exact⟨0,by simp,by simpa using h⟩
    ·exact⟨j+1,by simpa using hj,by simpa[Nat.add_assoc,Nat.add_comm 1 j] using h⟩
   ·rintro ⟨j,hj,h⟩
    cases j with
    | zero=>exact .inl (by simpa using h)
    | succ j=>exact .inr ⟨j,by simpa using hj,by simpa[Nat.add_assoc,Nat.add_comm 1 j] using h⟩
theorem qi4 {β:Type} (v:Int):∀ m:IM β,(qcP v m).isSome=true↔v∈qdl m
 | []=>by simp[qcP,qdl]
 | p :: m => by
   unfold qcP qdl
   rw[List.map_cons,List.mem_cons]
   by_cases h:v=p.1
   ·simp[h]
   ·rw[if_neg h]
    have:=qi4 v m
    unfold qdl at this
    rw[this]
    simp[h]
theorem quJ {β:Type} (v w:Int) (b:β) (m:IM β):v∈qdl (qo4 w b m)↔v=w∨v∈qdl m:=by
 rw[← qi4,← qi4,qil]
 by_cases h:v=w<;>simp[h]
def NN (b:IM Int):Prop:=∀ u,0≤qgu u b
theorem NN.up {b:IM Int} (h:NN b) (l:List Int):NN (l.foldl (qhH 1) b):=by
 intro u
 rw[qdx]
 have:=h u
 unfold qx1
 omega
theorem qxQ {b:IM Int} (h:NN b) (l:List Int) (v:Int):qgu v (l.foldl (qhH 1) b)=0↔qgu v b=0∧v∉l:=by
 rw[qdx]
 have h1:=h v
 have h2:(l.count v:Int)=0↔v∉l:=by
  rw[← List.count_eq_zero (a:=v)]
  omega
 unfold qx1
 constructor
 ·intro hx
  exact⟨by omega,h2.1 (by omega)⟩
 ·rintro ⟨a,c⟩
  have:=h2.2 c
  omega
mutual
theorem qqh (v:Int):∀ (t:CTree) (s:FS),NN s.1→(v∈qdl (qeQ t s).2↔v∈qdl s.2∨(qke v t∧qgu v s.1=0))
 | .mk op n binds kids alts,s,hn => by
   rw[qeQ,qke]
   have h1:(qd8 op n s).1=s.1:=by unfold qd8;split<;>rfl
   rw[qnO v op binds alts kids 0 _ (by rw[h1];exact hn),h1]
   unfold qd8
   split
   ·rename_i h
    rw[quJ]
    constructor
    ·rintro ((rfl | a) | a)
     ·exact .inr ⟨.inl ⟨h.1,rfl⟩,h.2⟩
     ·exact .inl a
     ·exact .inr ⟨.inr a.1,a.2⟩
    ·rintro (a | ⟨⟨_,rfl⟩ | a,c⟩)
     ·exact .inl (.inr a)
     ·exact .inl (.inl rfl)
     ·exact .inr ⟨a,c⟩
   ·rename_i h
    constructor
    ·rintro (a | a)
     ·exact .inl a
     ·exact .inr ⟨.inr a.1,a.2⟩
    ·rintro (a | ⟨⟨h0,rfl⟩ | a,c⟩)
     ·exact .inl a
     ·exact absurd ⟨h0,c⟩ h
     ·exact .inr ⟨a,c⟩
theorem qnO (v op:Int) (binds:List Int) (alts:List CAlt):∀ (ks:List CTree) (k:Nat) (s:FS),NN s.1→(v∈qdl (qeK op binds alts ks k s).2↔v∈qdl s.2∨(qfe v op binds alts ks k∧qgu v s.1=0))
 | [],k,s,hn=>by rw[qeK,qfe];simp
 | kid :: ks,k,s,hn => by
   rw[qeK,qfe]
   have hup:=hn.up (qcM op binds alts k)
   have hb:∀ u,qgu u ((qcM op binds alts k).foldl (qhH (-1)) (qeQ kid ((qcM op binds alts k).foldl (qhH 1) s.1,s.2)).1)=qgu u s.1:=by
    intro u
    rw[qdx,qiB,qdx]
    omega
   rw[qnO v op binds alts ks (k+1) _ (fun u=>by rw[hb u];exact hn u)]
   dsimp only
   rw[hb v,qqh v kid _ hup]
   dsimp only
   rw[qxQ hn]
   constructor
   ·rintro ((a | ⟨a,c,d⟩) | ⟨a,c⟩)
    ·exact .inl a
    ·exact .inr ⟨.inl ⟨a,d⟩,c⟩
    ·exact .inr ⟨.inr a,c⟩
   ·rintro (a | ⟨⟨a,d⟩ | a,c⟩)
    ·exact .inl (.inl a)
    ·exact .inl (.inr ⟨a,c,d⟩)
    ·exact .inr ⟨a,c⟩
end
theorem qq7 (t:CTree) (v:Int):v∈qgl t↔qke v t:=by
 unfold qgl
 rw[(qdE _).mem_iff,qqh v t ([],[]) (fun u=>by simp[qgu,qcP])]
 simp[qdl,qgu,qcP]
end Go.Abs
