/-
  PARTS OF A PROOF, joined: an abstract machine for quiet code, its evaluation, and what the seat's functions answer on it. Conditions: none.
-/
import Derived.Test.YtpchghpipgpkfaaDoorCS
import Derived.Test.YtpchghpipgpkfaaDoorC
set_option linter.unusedVariables false
set_option linter.unusedSimpArgs false
set_option maxRecDepth 100000
set_option maxHeartbeats 4000000
namespace Go.Abs
def IdMap (m:IM Int):Prop:=∀ v w,qbt v m=some w→w=v
theorem IdMap.put {m:IM Int} (h:IdMap m) (v:Int):IdMap (qh1 v v m):=by
 intro x w hx
 rw[qdp] at hx
 split at hx
 ·injection hx with hx
  omega
 ·exact h x w hx
theorem IdMap.zip:∀ (l:List Int) {m:IM Int},IdMap m→IdMap (qzo l l m)
 | [],m,h=>h
 | x::l,m,h=>IdMap.zip l (h.put x)
theorem qbM {e:List CExpr} (h:qa2 e=0):TreeL e∧e.length≤4096∧hgt (qbw e)≤400∧(∀ x∈e,qbL false (qhs e x)=0)∧(e.flatMap qaH).Nodup∧qd7 (qbw e)=[]:=by
 unfold qa2 qjl at h
 by_cases h1:qek e=0
 ·rw[if_neg (fun hx=>hx h1)] at h
  obtain⟨a,b,c⟩:=(qfN e).1 h1
  by_cases h2:qbG (e.map fun x=>qbL false (qhs e x))=0
  ·rw[if_neg (fun hx=>hx h2)] at h
   rw[qkB] at h
   by_cases h3:(e.flatMap qaH).Nodup
   ·simp only[h3,decide_true,Bool.not_true,Bool.false_eq_true,if_false] at h
    refine⟨a,b,c,(qdD _ e).1 h2,h3,?_⟩
    cases hf:qd7 (qbw e) with
    | nil=>rfl
    | cons n l=>rw[hf] at h;simp[qrH] at h
   ·simp only[h3,decide_false,Bool.not_false,if_true] at h
    cases h
  ·rw[if_pos h2] at h
   exact absurd h h2
 ·rw[if_pos h1] at h
  exact absurd h h1
theorem qmC {e:List CExpr} (hT:TreeL e) (hn:e.length≤4096) (hz:∀ x∈e,qbL false (qhs e x)=0):∀ x∈e,quv x:=by
 intro x hx
 have h0:=hz x hx
 unfold qbL at h0
 split at h0
 ·cases h0
 ·have:=qqC h0 (by unfold qhs;rw[List.length_map];have:=qtd e hT x hx;omega)
  unfold quv
  unfold qhs at this
  dsimp only at this
  omega
theorem qnz {e:List CExpr} (h:qa2 e=0) (hf:∀ x∈e,NodeFit x):TFit (qbw e)∧qaJ (qbw e)=e.length:=by
 obtain⟨a,b,c,d,_,_⟩:=qbM h
 exact⟨qp5 e a.ahead hf (qmC a b d) _ (by have:=a.pos;omega),qh9 e a⟩
mutual
theorem qqW:∀ (t:CTree) (b:Nat),TFit t→∀ x∈qef t b,NodeFit x
 | .mk op n binds kids alts,b,h => by
   cases h with
   | mk _ _ _ _ _ hb hk ha hfk =>
     rw[qef]
     intro x hx
     rcases List.mem_append.1 hx with hx | hx
     ·exact qoe kids b hfk x hx
     ·rw[List.mem_singleton.1 hx]
      rw[List.length_append] at hb
      exact⟨by dsimp only;omega,by dsimp only;rw[qko];exact hk,ha,fun a hm=>by have:=qiQ alts hm;omega⟩
theorem qoe:∀ (ks:List CTree) (b:Nat),(∀ k∈ks,TFit k)→∀ x∈qbo ks b,NodeFit x
 | [],b,_=>by rw[qbo];intro x hx;cases hx
 | k :: ks,b,h => by
   rw[qbo]
   intro x hx
   rcases List.mem_append.1 hx with hx | hx
   ·exact qqW k b (h k (by simp)) x hx
   ·exact qoe ks _ (fun y hy=>h y (by simp[hy])) x hx
end
section
end
section
end
section
end
theorem qhC {e:List CExpr} (h:TreeL e):∀ p,∀ j∈qbm e p,j<p:=by
 intro p j hj
 unfold qbm at hj
 cases hq:e[p]? with
 | none=>rw[hq] at hj;cases hj
 | some x =>
   rw[hq] at hj
   obtain⟨k,hk,rfl⟩:=List.mem_map.1 hj
   obtain⟨hp,rfl⟩:=List.getElem?_eq_some_iff.1 hq
   have:=h.ahead p hp k hk
   omega
theorem qv8 (e:List CExpr) (hk:qeH e):∀ (i:Nat),i<e.length→∃ X:List Nat,qks (qbn e i)=X.map (qbn e)∧X.Perm (i::X.flatMap (qbm e))∧∀ x∈X,x≤i:=by
 intro i
 induction i using Nat.strongRecOn with
 | ind i ih =>
   intro hi
   have key:∀ ks:List Int,(∀ k∈ks,0≤k∧k<i)→∃ Y:List Nat,qdr (ks.map fun k=>qbn e k.toNat)=Y.map (qbn e)∧Y.Perm (ks.map Int.toNat++Y.flatMap (qbm e))∧∀ y∈Y,y<i:=by
    intro ks
    induction ks with
    | nil=>intro _;exact⟨[],by rw[List.map_nil,qdr];rfl,.refl _,by simp⟩
    | cons k ks ihk =>
      intro h
      obtain⟨k0,k1⟩:=h k (by simp)
      obtain⟨Y,y1,y2,y3⟩:=ihk fun x hx=>h x (by simp[hx])
      obtain⟨X,x1,x2,x3⟩:=ih k.toNat (by omega) (by omega)
      refine⟨X++Y,by rw[List.map_cons,qdr,x1,y1,List.map_append],?_,fun z hz=>?_⟩
      ·rw[List.flatMap_append,List.map_cons,List.cons_append]
       refine (x2.append y2).trans ?_
       rw[List.cons_append]
       refine List.Perm.cons _ ?_
       rw[← List.append_assoc,← List.append_assoc]
       exact List.perm_append_comm.append_right _
      ·rcases List.mem_append.1 hz with hz | hz
       ·have:=x3 z hz;omega
       ·exact y3 z hz
   obtain⟨Y,y1,y2,y3⟩:=key e[i].kids (hk i hi)
   have hki:qbm e i=e[i].kids.map Int.toNat:=by unfold qbm;rw[List.getElem?_eq_getElem hi]
   refine⟨Y++[i],?_,?_,?_⟩
   ·rw[List.map_append,← y1]
    have h1:=qca e hk i hi
    show _=_++[qbn e i]
    rw[h1,qks]
   ·rw[List.flatMap_append,List.flatMap_cons,List.flatMap_nil,List.append_nil,hki]
    refine List.perm_append_comm.trans ?_
    rw[List.cons_append,List.nil_append]
    exact List.Perm.cons _ (y2.trans List.perm_append_comm)
   ·intro x hx
    rcases List.mem_append.1 hx with hx | hx
    ·have:=y3 x hx;omega
    ·have:=List.mem_singleton.1 hx;omega
theorem qub (e:List CExpr) (h:TreeL e):(qks (qbw e)).Perm ((List.range e.length).map (qbn e)):=by
 have hpos:=h.pos
 obtain⟨X,x1,x2,x3⟩:=qv8 e h.ahead (e.length-1) (by omega)
 have hperm:X.Perm (List.range e.length):=by
  rw[List.perm_iff_count]
  intro j
  by_cases hj:j<e.length
  ·exact (qfu (qbm e) (qhC h) (e.length-1) e.length X (List.range e.length) x2 (qea e h) (fun x hx=>by have:=x3 x hx;omega) (fun y hy=>List.mem_range.1 hy) (e.length-j) j (by omega)).1
  ·rw[List.count_eq_zero.2 (fun hm=>by have:=x3 j hm;omega),List.count_eq_zero.2 (fun hm=>by have:=List.mem_range.1 hm;omega)]
 rw[qhm,x1]
 exact hperm.map _
theorem qua {e:List CExpr} (h:TreeL e) (n:Nat) (hn:n<e.length):qbn e n∈qks (qbw e) :=
 (qub e h).mem_iff.2 (List.mem_map_of_mem (List.mem_range.2 hn))
mutual
theorem qmY:∀ (t s:CTree),s∈qks t→qaJ s≤qaJ t∧hgt s≤hgt t∧(qbp s).Sublist (qbp t)
 | .mk op n binds kids alts,s,h => by
   rw[qks] at h
   rcases List.mem_append.1 h with h | h
   ·obtain⟨a,b,c⟩:=qoW kids s h
    refine⟨by rw[qaJ];omega,by rw[hgt];omega,?_⟩
    rw[qbp]
    exact c.trans (List.sublist_append_left _ _)
   ·rw[List.mem_singleton.1 h]
    exact⟨Nat.le_refl _,Nat.le_refl _,List.Sublist.refl _⟩
theorem qoW:∀ (ks:List CTree) (s:CTree),s∈qdr ks→qaJ s≤qat ks∧hgt s≤qc4 ks∧(qbp s).Sublist (qbr ks)
 | [],s,h=>by rw[qdr] at h;cases h
 | k :: ks,s,h => by
   rw[qdr] at h
   rw[qat,qc4,qbr]
   rcases List.mem_append.1 h with h | h
   ·obtain⟨a,b,c⟩:=qmY k s h
    exact⟨by omega,by omega,c.trans (List.sublist_append_left _ _)⟩
   ·obtain⟨a,b,c⟩:=qoW ks s h
    exact⟨by omega,by omega,c.trans (List.sublist_append_right _ _)⟩
end
theorem qiy {α β:Type} (f:α→List β) {l m:List α} (h:l.Sublist m):(l.flatMap f).Sublist (m.flatMap f):=by
 induction h with
 | slnil=>exact List.Sublist.refl _
 | cons a _ ih=>rw[List.flatMap_cons];exact ih.trans (List.sublist_append_right _ _)
 | cons_cons a _ ih=>rw[List.flatMap_cons,List.flatMap_cons];exact (List.Sublist.refl _).append ih
def qch (l:Lab):List Int:=qbz l.op l.binds l.alts
structure TOk (t:CTree):Prop where
 size:qaJ t≤4096
 deep:hgt t≤400
 lab:∀ l∈qbp t,qbL false l=0
 once:((qbp t).flatMap qch).Nodup
theorem qp7 {t s:CTree} (h:TOk t) (hs:s∈qks t):TOk s:=by
 obtain⟨a,b,c⟩:=qmY t s hs
 exact⟨by have:=h.size;omega,by have:=h.deep;omega,fun l hl=>h.lab l (c.subset hl),h.once.sublist (qiy _ c)⟩
theorem qeK (e l:List CExpr):l.flatMap qaH=(l.map (qhs e)).flatMap qch:=by
 rw[List.flatMap_map]
 rfl
theorem ql5 {e:List CExpr} (h:qa2 e=0):TOk (qbw e):=by
 obtain⟨a,b,c,d,f,g⟩:=qbM h
 have hp:=qda e a
 refine⟨by rw[qh9 e a];exact b,c,fun l hl=>?_,?_⟩
 ·obtain⟨x,hx,rfl⟩:=List.mem_map.1 (hp.mem_iff.1 hl)
  exact d x hx
 ·rw[qeK e] at f
  exact ((hp.flatMap_right _).nodup_iff).2 f
theorem qnA {t:CTree} (h:TOk t):qa2 (qbT t)=if qd7 t=[] then 0 else 6:=by
 have hT:=qo1 t
 have hg:=qlx t
 have hp:=qda _ hT
 rw[hg] at hp
 have h1:qek (qbT t)=0:=(qfN _).2 ⟨hT,by unfold qbT;rw[qd9];exact h.size,by rw[hg];exact h.deep⟩
 have h2:qbG ((qbT t).map fun x=>qbL false (qhs (qbT t) x))=0:=(qdD _ _).2 fun x hx=>h.lab _ (hp.mem_iff.2 (List.mem_map_of_mem hx))
 have h3:((qbT t).flatMap qaH).Nodup:=by
  rw[qeK (qbT t)]
  exact ((hp.flatMap_right _).nodup_iff).1 h.once
 unfold qa2 qjl
 rw[if_neg (fun hx=>hx h1),if_neg (fun hx=>hx h2),qkB,hg]
 simp only[h3,decide_true,Bool.not_true,Bool.false_eq_true,if_false]
 cases qd7 t with
 | nil=>simp
 | cons n l=>simp[qrH]
theorem qo0 {e:List CExpr} (hz:qa2 e=0) (hf:∀ x∈e,NodeFit x) (n:Nat) (hn:n<e.length):TFit (qbn e n):=by
 obtain⟨hT,hn2,hh,hlab,_⟩:=qbM hz
 exact qp5 e hT.ahead hf (qmC hT hn2 hlab) n hn
section
end
section
end
mutual
def qcA (v:Int):CTree→Prop
 | .mk op n binds kids alts=>(op=0∧n=v)∨qd2 v op binds alts kids 0
def qd2 (v op:Int) (binds:List Int) (alts:List CAlt):List CTree→Nat→Prop
 | [],_=>False
 | k::ks,i=>(qcA v k∧v∉qbg op binds alts i)∨qd2 v op binds alts ks (i+1)
end
theorem qcN (v op:Int) (binds:List Int) (alts:List CAlt):∀ (ks:List CTree) (i:Nat),qd2 v op binds alts ks i↔∃ j,∃ hj:j<ks.length,qcA v ks[j]∧v∉qbg op binds alts (i+j)
 | [],i=>by rw[qd2];simp
 | k :: ks,i => by
   rw[qd2,qcN v op binds alts ks (i+1)]
   constructor
   ·rintro (h | ⟨j,hj,h⟩)
    ·exact⟨0,by simp,by simpa using h⟩
    ·exact⟨j+1,by simpa using hj,by simpa[Nat.add_assoc,Nat.add_comm 1 j] using h⟩
   ·rintro ⟨j,hj,h⟩
    cases j with
    | zero=>exact .inl (by simpa using h)
    | succ j=>exact .inr ⟨j,by simpa using hj,by simpa[Nat.add_assoc,Nat.add_comm 1 j] using h⟩
theorem qhN {β:Type} (v:Int):∀ m:IM β,(qbt v m).isSome=true↔v∈qcg m
 | []=>by simp[qbt,qcg]
 | p :: m => by
   unfold qbt qcg
   rw[List.map_cons,List.mem_cons]
   by_cases h:v=p.1
   ·simp[h]
   ·rw[if_neg h]
    have:=qhN v m
    unfold qcg at this
    rw[this]
    simp[h]
theorem qvG {β:Type} (v w:Int) (b:β) (m:IM β):v∈qcg (qh1 w b m)↔v=w∨v∈qcg m:=by
 rw[← qhN,← qhN,qdp]
 by_cases h:v=w<;>simp[h]
def NN (b:IM Int):Prop:=∀ u,0≤qbQ u b
theorem NN.up {b:IM Int} (h:NN b) (l:List Int):NN (l.foldl (qgw 1) b):=by
 intro u
 rw[qcu]
 have:=h u
 unfold qyZ
 omega
theorem qyK {b:IM Int} (h:NN b) (l:List Int) (v:Int):qbQ v (l.foldl (qgw 1) b)=0↔qbQ v b=0∧v∉l:=by
 rw[qcu]
 have h1:=h v
 have h2:(l.count v:Int)=0↔v∉l:=by
  rw[← List.count_eq_zero (a:=v)]
  omega
 unfold qyZ
 constructor
 ·intro hx
  exact⟨by omega,h2.1 (by omega)⟩
 ·rintro ⟨a,c⟩
  have:=h2.2 c
  omega
mutual
theorem qqF (v:Int):∀ (t:CTree) (s:FS),NN s.1→(v∈qcg (qdF t s).2↔v∈qcg s.2∨(qcA v t∧qbQ v s.1=0))
 | .mk op n binds kids alts,s,hn => by
   rw[qdF,qcA]
   have h1:(qc0 op n s).1=s.1:=by unfold qc0;split<;>rfl
   rw[qnO v op binds alts kids 0 _ (by rw[h1];exact hn),h1]
   unfold qc0
   split
   ·rename_i h
    rw[qvG]
    constructor
    ·rintro ((rfl | a) | a)
     ·exact .inr ⟨.inl ⟨h.1,rfl⟩,h.2⟩
     ·exact .inl a
     ·exact .inr ⟨.inr a.1,a.2⟩
    ·rintro (a | ⟨⟨_,rfl⟩ | a,c⟩)
     ·exact .inl (.inr a)
     ·exact .inl (.inl rfl)
     ·exact .inr ⟨a,c⟩
   ·rename_i h
    constructor
    ·rintro (a | a)
     ·exact .inl a
     ·exact .inr ⟨.inr a.1,a.2⟩
    ·rintro (a | ⟨⟨h0,rfl⟩ | a,c⟩)
     ·exact .inl a
     ·exact absurd ⟨h0,c⟩ h
     ·exact .inr ⟨a,c⟩
theorem qnO (v op:Int) (binds:List Int) (alts:List CAlt):∀ (ks:List CTree) (k:Nat) (s:FS),NN s.1→(v∈qcg (qdx op binds alts ks k s).2↔v∈qcg s.2∨(qd2 v op binds alts ks k∧qbQ v s.1=0))
 | [],k,s,hn=>by rw[qdx,qd2];simp
 | kid :: ks,k,s,hn => by
   rw[qdx,qd2]
   have hup:=hn.up (qbg op binds alts k)
   have hb:∀ u,qbQ u ((qbg op binds alts k).foldl (qgw (-1)) (qdF kid ((qbg op binds alts k).foldl (qgw 1) s.1,s.2)).1)=qbQ u s.1:=by
    intro u
    rw[qcu,qhk,qcu]
    omega
   rw[qnO v op binds alts ks (k+1) _ (fun u=>by rw[hb u];exact hn u)]
   dsimp only
   rw[hb v,qqF v kid _ hup]
   dsimp only
   rw[qyK hn]
   constructor
   ·rintro ((a | ⟨a,c,d⟩) | ⟨a,c⟩)
    ·exact .inl a
    ·exact .inr ⟨.inl ⟨a,d⟩,c⟩
    ·exact .inr ⟨.inr a,c⟩
   ·rintro (a | ⟨⟨a,d⟩ | a,c⟩)
    ·exact .inl (.inl a)
    ·exact .inl (.inr ⟨a,c,d⟩)
    ·exact .inr ⟨a,c⟩
end
theorem qhR (t:CTree) (v:Int):v∈qd7 t↔qcA v t:=by
 unfold qd7
 rw[(qcz _).mem_iff,qqF v t ([],[]) (fun u=>by simp[qbQ,qbt])]
 simp[qcg,qbQ,qbt]
end Go.Abs
