/-
  PARTS OF A PROOF, joined: an abstract machine for quiet code, its evaluation, and what the seat's functions answer on it. Conditions: none.
-/
import Derived.Test.YtjbgooldkkbdmaaDoorCS
import Derived.Test.YtjbgooldkkbdmaaDoorC
set_option linter.unusedVariables false
set_option linter.unusedSimpArgs false
set_option maxRecDepth 100000
set_option maxHeartbeats 4000000
namespace Go.Abs
structure CLib2 (L:Lib):Prop extends CLib L where
 f132:L.fns 132=some qw9
 f133:L.fns 133=some qxa
 f139:L.fns 139=some qxb
 f154:L.fns 154=some fn154
 list:∀ (t:CTree),TFit t→qbs t<2 ^ 30→∀ h:Heap,pcall L 159 [qaB t] h=some (.val (.list ((qcp t).map qal) none),h)
 f161:L.fns 161=some fn161
 f162:L.fns 162=some qxc
 f163:L.fns 163=some qxd
 f164:L.fns 164=some qxe
 f177:L.fns 177=some fn177
 f183:L.fns 183=some fn183
 f189:L.fns 189=some qxf
def IdMap (m:IM Int):Prop:=∀ v w,qaI v m=some w→w=v
theorem IdMap.put {m:IM Int} (h:IdMap m) (v:Int):IdMap (qgw v v m):=by
 intro x w hx
 rw[qbU] at hx
 split at hx
 ·injection hx with hx
  omega
 ·exact h x w hx
theorem IdMap.zip:∀ (l:List Int) {m:IM Int},IdMap m→IdMap (qr9 l l m)
 | [],m,h=>h
 | x::l,m,h=>IdMap.zip l (h.put x)
theorem qcR {e:List CExpr} (h:qa5 e=0):TreeL e∧e.length≤4096∧hgt (qbg e)≤400∧(∀ x∈e,qbR false (qhd e x)=0)∧(e.flatMap qaA).Nodup∧qdP (qbg e)=[]:=by
 unfold qa5 qiM at h
 by_cases h1:qec e=0
 ·rw[if_neg (fun hx=>hx h1)] at h
  obtain⟨a,b,c⟩:=(qfA e).1 h1
  by_cases h2:qbE (e.map fun x=>qbR false (qhd e x))=0
  ·rw[if_neg (fun hx=>hx h2)] at h
   rw[qjR] at h
   by_cases h3:(e.flatMap qaA).Nodup
   ·simp only[h3,decide_true,Bool.not_true,Bool.false_eq_true,if_false] at h
    refine⟨a,b,c,(qdx _ e).1 h2,h3,?_⟩
    cases hf:qdP (qbg e) with
    | nil=>rfl
    | cons n l=>rw[hf] at h;simp[qpS] at h
   ·simp only[h3,decide_false,Bool.not_false,if_true] at h
    cases h
  ·rw[if_pos h2] at h
   exact absurd h h2
 ·rw[if_pos h1] at h
  exact absurd h h1
theorem qo4 {e:List CExpr} (hT:TreeL e) (hn:e.length≤4096) (hz:∀ x∈e,qbR false (qhd e x)=0):∀ x∈e,qs0 x:=by
 intro x hx
 have h0:=hz x hx
 unfold qbR at h0
 split at h0
 ·cases h0
 ·have:=qoO h0 (by unfold qhd;rw[List.length_map];have:=qrH e hT x hx;omega)
  unfold qs0
  unfold qhd at this
  dsimp only at this
  omega
theorem qiW {e:List CExpr} (h:qa5 e=0) (hf:∀ x∈e,NodeFit x):TFit (qbg e)∧qbs (qbg e)=e.length:=by
 obtain⟨a,b,c,d,_,_⟩:=qcR h
 exact⟨qsG e a.ahead hf (qo4 a b d) _ (by have:=a.pos;omega),qf3 e a⟩
mutual
theorem qo6:∀ (t:CTree) (b:Nat),TFit t→∀ x∈qeo t b,NodeFit x
 | .mk op n binds kids alts,b,h => by
   cases h with
   | mk _ _ _ _ _ hb hk ha hfk =>
     rw[qeo]
     intro x hx
     rcases List.mem_append.1 hx with hx | hx
     ·exact qmB kids b hfk x hx
     ·rw[List.mem_singleton.1 hx]
      rw[List.length_append] at hb
      exact⟨by dsimp only;omega,by dsimp only;rw[qjE];exact hk,ha,fun a hm=>by have:=qim alts hm;omega⟩
theorem qmB:∀ (ks:List CTree) (b:Nat),(∀ k∈ks,TFit k)→∀ x∈qbn ks b,NodeFit x
 | [],b,_=>by rw[qbn];intro x hx;cases hx
 | k :: ks,b,h => by
   rw[qbn]
   intro x hx
   rcases List.mem_append.1 hx with hx | hx
   ·exact qo6 k b (h k (by simp)) x hx
   ·exact qmB ks _ (fun y hy=>h y (by simp[hy])) x hx
end
def qsw (a b:List CExpr):Bool:=(qa5 a==0) && (qa5 b==0) && (quB (qbg a) (qbg b) []).1
section
end
section
end
section
end
theorem qiC {e:List CExpr} (h:TreeL e):∀ p,∀ j∈qbw e p,j<p:=by
 intro p j hj
 unfold qbw at hj
 cases hq:e[p]? with
 | none=>rw[hq] at hj;cases hj
 | some x =>
   rw[hq] at hj
   obtain⟨k,hk,rfl⟩:=List.mem_map.1 hj
   obtain⟨hp,rfl⟩:=List.getElem?_eq_some_iff.1 hq
   have:=h.ahead p hp k hk
   omega
def qbu (l:Lab):List Int:=qaz l.op l.binds l.alts
structure TOk (t:CTree):Prop where
 size:qbs t≤4096
 deep:hgt t≤400
 lab:∀ l∈qbx t,qbR false l=0
 once:((qbx t).flatMap qbu).Nodup
theorem qc5 (e l:List CExpr):l.flatMap qaA=(l.map (qhd e)).flatMap qbu:=by
 rw[List.flatMap_map]
 rfl
theorem qpn {e:List CExpr} (h:qa5 e=0):TOk (qbg e):=by
 obtain⟨a,b,c,d,f,g⟩:=qcR h
 have hp:=qda e a
 refine⟨by rw[qf3 e a];exact b,c,fun l hl=>?_,?_⟩
 ·obtain⟨x,hx,rfl⟩:=List.mem_map.1 (hp.mem_iff.1 hl)
  exact d x hx
 ·rw[qc5 e] at f
  exact ((hp.flatMap_right _).nodup_iff).2 f
theorem ql8 {t:CTree} (h:TOk t):qa5 (qcp t)=if qdP t=[] then 0 else 6:=by
 have hT:=qjP t
 have hg:=qfW t
 have hp:=qda _ hT
 rw[hg] at hp
 have h1:qec (qcp t)=0:=(qfA _).2 ⟨hT,by unfold qcp;rw[qfX];exact h.size,by rw[hg];exact h.deep⟩
 have h2:qbE ((qcp t).map fun x=>qbR false (qhd (qcp t) x))=0:=(qdx _ _).2 fun x hx=>h.lab _ (hp.mem_iff.2 (List.mem_map_of_mem hx))
 have h3:((qcp t).flatMap qaA).Nodup:=by
  rw[qc5 (qcp t)]
  exact ((hp.flatMap_right _).nodup_iff).1 h.once
 unfold qa5 qiM
 rw[if_neg (fun hx=>hx h1),if_neg (fun hx=>hx h2),qjR,hg]
 simp only[h3,decide_true,Bool.not_true,Bool.false_eq_true,if_false]
 cases qdP t with
 | nil=>simp
 | cons n l=>simp[qpS]
section
end
section
end
mutual
def qcC (v:Int):CTree→Prop
 | .mk op n binds kids alts=>(op=0∧n=v)∨qdX v op binds alts kids 0
def qdX (v op:Int) (binds:List Int) (alts:List CAlt):List CTree→Nat→Prop
 | [],_=>False
 | k::ks,i=>(qcC v k∧v∉qaQ op binds alts i)∨qdX v op binds alts ks (i+1)
end
theorem qcS (v op:Int) (binds:List Int) (alts:List CAlt):∀ (ks:List CTree) (i:Nat),qdX v op binds alts ks i↔∃ j,∃ hj:j<ks.length,qcC v ks[j]∧v∉qaQ op binds alts (i+j)
 | [],i=>by rw[qdX];simp
 | k :: ks,i => by
   rw[qdX,qcS v op binds alts ks (i+1)]
   constructor
   ·rintro (h | ⟨j,hj,h⟩)
    ·exact⟨0,by simp,by simpa using h⟩
    ·exact⟨j+1,by simpa using hj,by simpa[Nat.add_assoc,Nat.add_comm 1 j] using h⟩
   ·rintro ⟨j,hj,h⟩
    cases j with
    | zero=>exact .inl (by simpa using h)
    | succ j=>exact .inr ⟨j,by simpa using hj,by simpa[Nat.add_assoc,Nat.add_comm 1 j] using h⟩
theorem qhm {β:Type} (v:Int):∀ m:IM β,(qaI v m).isSome=true↔v∈qch m
 | []=>by simp[qaI,qch]
 | p :: m => by
   unfold qaI qch
   rw[List.map_cons,List.mem_cons]
   by_cases h:v=p.1
   ·simp[h]
   ·rw[if_neg h]
    have:=qhm v m
    unfold qch at this
    rw[this]
    simp[h]
theorem qt4 {β:Type} (v w:Int) (b:β) (m:IM β):v∈qch (qgw w b m)↔v=w∨v∈qch m:=by
 rw[← qhm,← qhm,qbU]
 by_cases h:v=w<;>simp[h]
def NN (b:IM Int):Prop:=∀ u,0≤qbZ u b
theorem NN.up {b:IM Int} (h:NN b) (l:List Int):NN (l.foldl (qgc 1) b):=by
 intro u
 rw[qcu]
 have:=h u
 unfold qw2
 omega
theorem qwN {b:IM Int} (h:NN b) (l:List Int) (v:Int):qbZ v (l.foldl (qgc 1) b)=0↔qbZ v b=0∧v∉l:=by
 rw[qcu]
 have h1:=h v
 have h2:(l.count v:Int)=0↔v∉l:=by
  rw[← List.count_eq_zero (a:=v)]
  omega
 unfold qw2
 constructor
 ·intro hx
  exact⟨by omega,h2.1 (by omega)⟩
 ·rintro ⟨a,c⟩
  have:=h2.2 c
  omega
mutual
theorem qoT (v:Int):∀ (t:CTree) (s:FS),NN s.1→(v∈qch (qdz t s).2↔v∈qch s.2∨(qcC v t∧qbZ v s.1=0))
 | .mk op n binds kids alts,s,hn => by
   rw[qdz,qcC]
   have h1:(qc0 op n s).1=s.1:=by unfold qc0;split<;>rfl
   rw[qmg v op binds alts kids 0 _ (by rw[h1];exact hn),h1]
   unfold qc0
   split
   ·rename_i h
    rw[qt4]
    constructor
    ·rintro ((rfl | a) | a)
     ·exact .inr ⟨.inl ⟨h.1,rfl⟩,h.2⟩
     ·exact .inl a
     ·exact .inr ⟨.inr a.1,a.2⟩
    ·rintro (a | ⟨⟨_,rfl⟩ | a,c⟩)
     ·exact .inl (.inr a)
     ·exact .inl (.inl rfl)
     ·exact .inr ⟨a,c⟩
   ·rename_i h
    constructor
    ·rintro (a | a)
     ·exact .inl a
     ·exact .inr ⟨.inr a.1,a.2⟩
    ·rintro (a | ⟨⟨h0,rfl⟩ | a,c⟩)
     ·exact .inl a
     ·exact absurd ⟨h0,c⟩ h
     ·exact .inr ⟨a,c⟩
theorem qmg (v op:Int) (binds:List Int) (alts:List CAlt):∀ (ks:List CTree) (k:Nat) (s:FS),NN s.1→(v∈qch (qdr op binds alts ks k s).2↔v∈qch s.2∨(qdX v op binds alts ks k∧qbZ v s.1=0))
 | [],k,s,hn=>by rw[qdr,qdX];simp
 | kid :: ks,k,s,hn => by
   rw[qdr,qdX]
   have hup:=hn.up (qaQ op binds alts k)
   have hb:∀ u,qbZ u ((qaQ op binds alts k).foldl (qgc (-1)) (qdz kid ((qaQ op binds alts k).foldl (qgc 1) s.1,s.2)).1)=qbZ u s.1:=by
    intro u
    rw[qcu,qgX,qcu]
    omega
   rw[qmg v op binds alts ks (k+1) _ (fun u=>by rw[hb u];exact hn u)]
   dsimp only
   rw[hb v,qoT v kid _ hup]
   dsimp only
   rw[qwN hn]
   constructor
   ·rintro ((a | ⟨a,c,d⟩) | ⟨a,c⟩)
    ·exact .inl a
    ·exact .inr ⟨.inl ⟨a,d⟩,c⟩
    ·exact .inr ⟨.inr a,c⟩
   ·rintro (a | ⟨⟨a,d⟩ | a,c⟩)
    ·exact .inl (.inl a)
    ·exact .inl (.inr ⟨a,c,d⟩)
    ·exact .inr ⟨a,c⟩
end
theorem qhr (t:CTree) (v:Int):v∈qdP t↔qcC v t:=by
 unfold qdP
 rw[(qb6 _).mem_iff,qoT v t ([],[]) (fun u=>by simp[qbZ,qaI])]
 simp[qch,qbZ,qaI]
end Go.Abs
