/-
  PARTS OF A PROOF, joined: an abstract machine for quiet code, its evaluation, and what the seat's functions answer on it. Conditions: none.
-/
import Derived.Test.YtbmognfolkhkpaaDoorCS
import Derived.Test.YtbmognfolkhkpaaDoorC
set_option linter.unusedVariables false
set_option linter.unusedSimpArgs false
set_option maxRecDepth 100000
set_option maxHeartbeats 4000000
namespace Go.Abs
structure CLib2 (L:Lib):Prop extends CLib L where
 f132:L.fns 132=some fn132
 f133:L.fns 133=some fn133
 f139:L.fns 139=some fn139
 f154:L.fns 154=some fn154
 list:∀ (t:CTree),TFit t→qbR t<2 ^ 30→∀ h:Heap,pcall L 159 [qaX t] h=some (.val (.list ((qbU t).map qaH) none),h)
 f161:L.fns 161=some fn161
 f162:L.fns 162=some fn162
 f163:L.fns 163=some fn163
 f164:L.fns 164=some fn164
 f177:L.fns 177=some fn177
 f183:L.fns 183=some fn183
 f189:L.fns 189=some fn189
def IdMap (m:IM Int):Prop:=∀ v w,qce v m=some w→w=v
theorem IdMap.put {m:IM Int} (h:IdMap m) (v:Int):IdMap (qlV v v m):=by
 intro x w hx
 rw[qe8] at hx
 split at hx
 ·injection hx with hx
  omega
 ·exact h x w hx
theorem IdMap.zip:∀ (l:List Int) {m:IM Int},IdMap m→IdMap (qiM l l m)
 | [],m,h=>h
 | x::l,m,h=>IdMap.zip l (h.put x)
theorem qcG {e:List CExpr} (h:qbi e=0):TreeL e∧e.length≤4096∧hgt (qb2 e)≤400∧(∀ x∈e,qcM false (qgD e x)=0)∧(e.flatMap qbL).Nodup∧qeL (qb2 e)=[]:=by
 unfold qbi qiV at h
 by_cases h1:qfz e=0
 ·rw[if_neg (fun hx=>hx h1)] at h
  obtain⟨a,b,c⟩:=(qfw e).1 h1
  by_cases h2:qcE (e.map fun x=>qcM false (qgD e x))=0
  ·rw[if_neg (fun hx=>hx h2)] at h
   rw[qh6] at h
   by_cases h3:(e.flatMap qbL).Nodup
   ·simp only[h3,decide_true,Bool.not_true,Bool.false_eq_true,if_false] at h
    refine⟨a,b,c,(qd9 _ e).1 h2,h3,?_⟩
    cases hf:qeL (qb2 e) with
    | nil=>rfl
    | cons n l=>rw[hf] at h;simp[qqA] at h
   ·simp only[h3,decide_false,Bool.not_false,if_true] at h
    cases h
  ·rw[if_pos h2] at h
   exact absurd h h2
 ·rw[if_pos h1] at h
  exact absurd h h1
theorem qtu {e:List CExpr} (a:TreeL e) (b:e.length≤4096) (c:hgt (qb2 e)≤400) (d:∀ x∈e,qcM false (qgD e x)=0) (f:(e.flatMap qbL).Nodup) (g:qeL (qb2 e)=[]):qbi e=0:=by
 unfold qbi qiV
 rw[if_neg (fun hx=>hx ((qfw e).2 ⟨a,b,c⟩)),if_neg (fun hx=>hx ((qd9 _ e).2 d)),qh6,g]
 simp[f]
theorem qpV {e:List CExpr} (hT:TreeL e) (hn:e.length≤4096) (hz:∀ x∈e,qcM false (qgD e x)=0):∀ x∈e,qqd x:=by
 intro x hx
 have h0:=hz x hx
 unfold qcM at h0
 split at h0
 ·cases h0
 ·have:=qpF h0 (by unfold qgD;rw[List.length_map];have:=qr4 e hT x hx;omega)
  unfold qqd
  unfold qgD at this
  dsimp only at this
  omega
theorem qfF {e:List CExpr} (h:qbi e=0) (hf:∀ x∈e,NodeFit x):TFit (qb2 e)∧qbR (qb2 e)=e.length:=by
 obtain⟨a,b,c,d,_,_⟩:=qcG h
 exact⟨qsV e a.ahead hf (qpV a b d) _ (by have:=a.pos;omega),qf0 e a⟩
mutual
theorem qiH:∀ (t:CTree) (b:Nat),TFit t→∀ x∈qdU t b,NodeFit x
 | .mk op n binds kids alts,b,h => by
   cases h with
   | mk _ _ _ _ _ hb hk ha hfk =>
     rw[qdU]
     intro x hx
     rcases List.mem_append.1 hx with hx | hx
     ·exact qnF kids b hfk x hx
     ·rw[List.mem_singleton.1 hx]
      rw[List.length_append] at hb
      exact⟨by dsimp only;omega,by dsimp only;rw[qfh];exact hk,ha,fun a hm=>by have:=qjO alts hm;omega⟩
theorem qnF:∀ (ks:List CTree) (b:Nat),(∀ k∈ks,TFit k)→∀ x∈qbm ks b,NodeFit x
 | [],b,_=>by rw[qbm];intro x hx;cases hx
 | k :: ks,b,h => by
   rw[qbm]
   intro x hx
   rcases List.mem_append.1 hx with hx | hx
   ·exact qiH k b (h k (by simp)) x hx
   ·exact qnF ks _ (fun y hy=>h y (by simp[hy])) x hx
end
theorem qqr {e:List CExpr} (h:qbi e=0):qbi (qbU (qb2 e))=0:=by
 obtain⟨a,b,c,d,f,g⟩:=qcG h
 have hT:=qk9 (qb2 e)
 have hg:=qe0 (qb2 e)
 have hp1:=qe2 e a
 have hp2:=qe2 _ hT
 rw[hg] at hp2
 have hp:(e.map (qgD e)).Perm ((qbU (qb2 e)).map (qgD (qbU (qb2 e)))):=hp1.symm.trans hp2
 refine qtu hT ?_ ?_ ?_ ?_ ?_
 ·unfold qbU
  rw[qdN,qf0 e a]
  exact b
 ·rw[hg];exact c
 ·intro x hx
  have hm:qgD (qbU (qb2 e)) x∈e.map (qgD e):=hp.mem_iff.2 (List.mem_map_of_mem hx)
  obtain⟨y,hy,he⟩:=List.mem_map.1 hm
  rw[← he]
  exact d y hy
 ·have hbl:∀ (l:List CExpr),l.flatMap qbL=(l.map (qgD l)).flatMap fun q=>qbt q.op q.binds q.alts:=by
   intro l
   rw[List.flatMap_map]
   rfl
  have hbl2:∀ (l m:List CExpr),m.flatMap qbL=(m.map (qgD l)).flatMap fun q=>qbt q.op q.binds q.alts:=by
   intro l m
   rw[List.flatMap_map]
   rfl
  rw[hbl2 (qbU (qb2 e))]
  rw[hbl2 e] at f
  exact ((hp.flatMap_right _).nodup_iff).1 f
 ·rw[hg];exact g
def qfW (a b:List CExpr):Bool:=(qbi a==0) && (qbi b==0) && (qh5 (qb2 a) (qb2 b) []).1
section
variable {L:Lib} (hC:CLib2 L)
include hC
theorem qqT (a b:List CExpr) (ha:a.length<2 ^ 30) (hfa:∀ x∈a,NodeFit x) (hb:b.length<2 ^ 30) (hfb:∀ x∈b,NodeFit x) (h:Heap) :
  pcall L 133 [.list (a.map qaH) none,.list (b.map qaH) none] h=some (.val (.bool (qfW a b)),h):=by
 have hL:=hC.plain
 have hp:=hL.pure
 have hdA:=qa3 a
 have hdB:=qa3 b
 have hca:=qfp hC.toCLib a ha hfa
 have hcb:=qfp hC.toCLib b hb hfb
 refine qbH hL hC.f133 rfl ?_ h
 unfold qfW
 by_cases hz:qbi a=0
 ·by_cases hy:qbi b=0
  ·rw[hz] at hca
   rw[hy] at hcb
   obtain⟨hT,_,hdp,_⟩:=qcG hz
   obtain⟨hT',_,hdp',_⟩:=qcG hy
   obtain⟨hft,_⟩:=qfF hz hfa
   obtain⟨hft',_⟩:=qfF hy hfb
   have hg:=fun h=>hC.grow a h ha hfa hT hdp
   have hg':=fun h=>hC.grow b h hb hfb hT' hdp'
   have hs:=qpc hL hC.f139 hC.f232 hC.f189 hC.f164 (qb2 a) (qb2 b) hft hft'
   obtain⟨tc,htc,hdt⟩:=qc0 (qb2 a)
   obtain⟨tc',htc',hdt'⟩:=qc0 (qb2 b)
   rw[htc] at hg hs
   rw[htc'] at hg' hs
   rw[hz,hy]
   unfold fn133
   simp -implicitDefEqProofs only[qad,qae,qax,qab,qaC,qah,aOp,opd,qai,qan,qag,qbh,qbg,qaj,qaA,qaR,qas,qaB,qaI,qbc,qbf,qbS,qaa,qaN,qap,qak,beq_self_eq_true,Option.getD_some,List.map_cons,List.map_nil,List.getElem?_cons_zero,List.getElem?_cons_succ,↓reduceIte,Bool.and_true,Bool.true_and,Bool.false_eq_true,and_self,reduceCtorEq,Nat.reduceEqDiff,qa4,qaD,hca,hcb,hg,hg',hs,hdA,hdB,hdt,hdt',qaJ L hp,hp]
  ·have hy':(qbi b==0)=false:=by simpa using hy
   rw[hz] at hca
   rw[hz,hy']
   unfold fn133
   simp -implicitDefEqProofs only[qad,qae,qax,qab,qaC,qah,aOp,opd,qai,qan,qag,qbh,qbg,qaj,qaA,qaR,qas,qaB,qaI,qbc,qbf,qaa,qap,qak,qcI,beq_self_eq_true,Option.getD_some,List.map_cons,List.map_nil,List.getElem?_cons_zero,List.getElem?_cons_succ,↓reduceIte,Bool.and_true,Bool.and_false,Bool.false_and,Bool.false_eq_true,and_self,reduceCtorEq,Nat.reduceEqDiff,qa4,qaD,hca,hcb,hy',hdA,hdB,qaJ L hp,hp]
 ·have hz':(qbi a==0)=false:=by simpa using hz
  rw[hz']
  unfold fn133
  simp -implicitDefEqProofs only[qad,qae,qax,qab,qaC,qah,aOp,opd,qai,qan,qag,qbh,qbg,qaj,qaA,qaR,qas,qaB,qaI,qbc,qbf,qaa,qap,qak,qcI,Option.getD_some,List.map_cons,List.map_nil,List.getElem?_cons_zero,↓reduceIte,Bool.and_true,Bool.false_and,Bool.false_eq_true,and_self,reduceCtorEq,Nat.reduceEqDiff,qa4,qaD,hca,hz',hdA,hdB,qaJ L hp,hp]
end
section
end
section
end
theorem qj3 {e:List CExpr} (h:TreeL e):∀ p,∀ j∈qcw e p,j<p:=by
 intro p j hj
 unfold qcw at hj
 cases hq:e[p]? with
 | none=>rw[hq] at hj;cases hj
 | some x =>
   rw[hq] at hj
   obtain⟨k,hk,rfl⟩:=List.mem_map.1 hj
   obtain⟨hp,rfl⟩:=List.getElem?_eq_some_iff.1 hq
   have:=h.ahead p hp k hk
   omega
def qcL (l:Lab):List Int:=qbt l.op l.binds l.alts
structure TOk (t:CTree):Prop where
 size:qbR t≤4096
 deep:hgt t≤400
 lab:∀ l∈qcx t,qcM false l=0
 once:((qcx t).flatMap qcL).Nodup
theorem qhO (e l:List CExpr):l.flatMap qbL=(l.map (qgD e)).flatMap qcL:=by
 rw[List.flatMap_map]
 rfl
theorem qvj {e:List CExpr} (h:qbi e=0):TOk (qb2 e):=by
 obtain⟨a,b,c,d,f,g⟩:=qcG h
 have hp:=qe2 e a
 refine⟨by rw[qf0 e a];exact b,c,fun l hl=>?_,?_⟩
 ·obtain⟨x,hx,rfl⟩:=List.mem_map.1 (hp.mem_iff.1 hl)
  exact d x hx
 ·rw[qhO e] at f
  exact ((hp.flatMap_right _).nodup_iff).2 f
theorem qnd {t:CTree} (h:TOk t):qbi (qbU t)=if qeL t=[] then 0 else 6:=by
 have hT:=qk9 t
 have hg:=qe0 t
 have hp:=qe2 _ hT
 rw[hg] at hp
 have h1:qfz (qbU t)=0:=(qfw _).2 ⟨hT,by unfold qbU;rw[qdN];exact h.size,by rw[hg];exact h.deep⟩
 have h2:qcE ((qbU t).map fun x=>qcM false (qgD (qbU t) x))=0:=(qd9 _ _).2 fun x hx=>h.lab _ (hp.mem_iff.2 (List.mem_map_of_mem hx))
 have h3:((qbU t).flatMap qbL).Nodup:=by
  rw[qhO (qbU t)]
  exact ((hp.flatMap_right _).nodup_iff).1 h.once
 unfold qbi qiV
 rw[if_neg (fun hx=>hx h1),if_neg (fun hx=>hx h2),qh6,hg]
 simp only[h3,decide_true,Bool.not_true,Bool.false_eq_true,if_false]
 cases qeL t with
 | nil=>simp
 | cons n l=>simp[qqA]
section
end
section
end
mutual
def qeJ (v:Int):CTree→Prop
 | .mk op n binds kids alts=>(op=0∧n=v)∨qfn v op binds alts kids 0
def qfn (v op:Int) (binds:List Int) (alts:List CAlt):List CTree→Nat→Prop
 | [],_=>False
 | k::ks,i=>(qeJ v k∧v∉qcq op binds alts i)∨qfn v op binds alts ks (i+1)
end
theorem qeB (v op:Int) (binds:List Int) (alts:List CAlt):∀ (ks:List CTree) (i:Nat),qfn v op binds alts ks i↔∃ j,∃ hj:j<ks.length,qeJ v ks[j]∧v∉qcq op binds alts (i+j)
 | [],i=>by rw[qfn];simp
 | k :: ks,i => by
   rw[qfn,qeB v op binds alts ks (i+1)]
   constructor
   ·rintro (h | ⟨j,hj,h⟩)
    ·exact⟨0,by simp,by simpa using h⟩
    ·exact⟨j+1,by simpa using hj,by simpa[Nat.add_assoc,Nat.add_comm 1 j] using h⟩
   ·rintro ⟨j,hj,h⟩
    cases j with
    | zero=>exact .inl (by simpa using h)
    | succ j=>exact .inr ⟨j,by simpa using hj,by simpa[Nat.add_assoc,Nat.add_comm 1 j] using h⟩
theorem qiZ {β:Type} (v:Int):∀ m:IM β,(qce v m).isSome=true↔v∈qdh m
 | []=>by simp[qce,qdh]
 | p :: m => by
   unfold qce qdh
   rw[List.map_cons,List.mem_cons]
   by_cases h:v=p.1
   ·simp[h]
   ·rw[if_neg h]
    have:=qiZ v m
    unfold qdh at this
    rw[this]
    simp[h]
theorem que {β:Type} (v w:Int) (b:β) (m:IM β):v∈qdh (qlV w b m)↔v=w∨v∈qdh m:=by
 rw[← qiZ,← qiZ,qe8]
 by_cases h:v=w<;>simp[h]
def NN (b:IM Int):Prop:=∀ u,0≤qgH u b
theorem NN.up {b:IM Int} (h:NN b) (l:List Int):NN (l.foldl (qhF 1) b):=by
 intro u
 rw[qdw]
 have:=h u
 unfold qxE
 omega
theorem qxs {b:IM Int} (h:NN b) (l:List Int) (v:Int):qgH v (l.foldl (qhF 1) b)=0↔qgH v b=0∧v∉l:=by
 rw[qdw]
 have h1:=h v
 have h2:(l.count v:Int)=0↔v∉l:=by
  rw[← List.count_eq_zero (a:=v)]
  omega
 unfold qxE
 constructor
 ·intro hx
  exact⟨by omega,h2.1 (by omega)⟩
 ·rintro ⟨a,c⟩
  have:=h2.2 c
  omega
mutual
theorem qpJ (v:Int):∀ (t:CTree) (s:FS),NN s.1→(v∈qdh (qeQ t s).2↔v∈qdh s.2∨(qeJ v t∧qgH v s.1=0))
 | .mk op n binds kids alts,s,hn => by
   rw[qeQ,qeJ]
   have h1:(qeb op n s).1=s.1:=by unfold qeb;split<;>rfl
   rw[qnm v op binds alts kids 0 _ (by rw[h1];exact hn),h1]
   unfold qeb
   split
   ·rename_i h
    rw[que]
    constructor
    ·rintro ((rfl | a) | a)
     ·exact .inr ⟨.inl ⟨h.1,rfl⟩,h.2⟩
     ·exact .inl a
     ·exact .inr ⟨.inr a.1,a.2⟩
    ·rintro (a | ⟨⟨_,rfl⟩ | a,c⟩)
     ·exact .inl (.inr a)
     ·exact .inl (.inl rfl)
     ·exact .inr ⟨a,c⟩
   ·rename_i h
    constructor
    ·rintro (a | a)
     ·exact .inl a
     ·exact .inr ⟨.inr a.1,a.2⟩
    ·rintro (a | ⟨⟨h0,rfl⟩ | a,c⟩)
     ·exact .inl a
     ·exact absurd ⟨h0,c⟩ h
     ·exact .inr ⟨a,c⟩
theorem qnm (v op:Int) (binds:List Int) (alts:List CAlt):∀ (ks:List CTree) (k:Nat) (s:FS),NN s.1→(v∈qdh (qeK op binds alts ks k s).2↔v∈qdh s.2∨(qfn v op binds alts ks k∧qgH v s.1=0))
 | [],k,s,hn=>by rw[qeK,qfn];simp
 | kid :: ks,k,s,hn => by
   rw[qeK,qfn]
   have hup:=hn.up (qcq op binds alts k)
   have hb:∀ u,qgH u ((qcq op binds alts k).foldl (qhF (-1)) (qeQ kid ((qcq op binds alts k).foldl (qhF 1) s.1,s.2)).1)=qgH u s.1:=by
    intro u
    rw[qdw,qiy,qdw]
    omega
   rw[qnm v op binds alts ks (k+1) _ (fun u=>by rw[hb u];exact hn u)]
   dsimp only
   rw[hb v,qpJ v kid _ hup]
   dsimp only
   rw[qxs hn]
   constructor
   ·rintro ((a | ⟨a,c,d⟩) | ⟨a,c⟩)
    ·exact .inl a
    ·exact .inr ⟨.inl ⟨a,d⟩,c⟩
    ·exact .inr ⟨.inr a,c⟩
   ·rintro (a | ⟨⟨a,d⟩ | a,c⟩)
    ·exact .inl (.inl a)
    ·exact .inl (.inr ⟨a,c,d⟩)
    ·exact .inr ⟨a,c⟩
end
theorem qlC (t:CTree) (v:Int):v∈qeL t↔qeJ v t:=by
 unfold qeL
 rw[(qc3 _).mem_iff,qpJ v t ([],[]) (fun u=>by simp[qgH,qce])]
 simp[qdh,qgH,qce]
end Go.Abs
