/-
  PARTS OF A PROOF, joined: an abstract machine for quiet code, its evaluation, and what the seat's functions answer on it. Conditions: none.
-/
import Derived.Test.YtpchghpipgpkfaaDoorCS
import Derived.Test.YtpchghpipgpkfaaDoorC
set_option linter.unusedVariables false
set_option linter.unusedSimpArgs false
set_option maxRecDepth 100000
set_option maxHeartbeats 4000000
namespace Go.Abs
def IdMap (m:IM Int):Prop:=∀ v w,qbK v m=some w→w=v
theorem IdMap.put {m:IM Int} (h:IdMap m) (v:Int):IdMap (qoA v v m):=by
 intro x w hx
 rw[qgQ] at hx
 split at hx
 ·injection hx with hx
  omega
 ·exact h x w hx
theorem IdMap.zip:∀ (l:List Int) {m:IM Int},IdMap m→IdMap (qyC l l m)
 | [],m,h=>h
 | x::l,m,h=>IdMap.zip l (h.put x)
theorem qbo {e:List CExpr} (h:qaN e=0):TreeL e∧e.length≤4096∧hgt (qbl e)≤400∧(∀ x∈e,qbU false (qfW e x)=0)∧(e.flatMap qbw).Nodup∧qeR (qbl e)=[]:=by
 unfold qaN qi0 at h
 by_cases h1:qeP e=0
 ·rw[if_neg (fun hx=>hx h1)] at h
  obtain⟨a,b,c⟩:=(qfq e).1 h1
  by_cases h2:qbF (e.map fun x=>qbU false (qfW e x))=0
  ·rw[if_neg (fun hx=>hx h2)] at h
   rw[qj5] at h
   by_cases h3:(e.flatMap qbw).Nodup
   ·simp only[h3,decide_true,Bool.not_true,Bool.false_eq_true,if_false] at h
    refine⟨a,b,c,(qdl _ e).1 h2,h3,?_⟩
    cases hf:qeR (qbl e) with
    | nil=>rfl
    | cons n l=>rw[hf] at h;simp[qqU] at h
   ·simp only[h3,decide_false,Bool.not_false,if_true] at h
    cases h
  ·rw[if_pos h2] at h
   exact absurd h h2
 ·rw[if_pos h1] at h
  exact absurd h h1
theorem qtN {e:List CExpr} (a:TreeL e) (b:e.length≤4096) (c:hgt (qbl e)≤400) (d:∀ x∈e,qbU false (qfW e x)=0) (f:(e.flatMap qbw).Nodup) (g:qeR (qbl e)=[]):qaN e=0:=by
 unfold qaN qi0
 rw[if_neg (fun hx=>hx ((qfq e).2 ⟨a,b,c⟩)),if_neg (fun hx=>hx ((qdl _ e).2 d)),qj5,g]
 simp[f]
theorem qpt {e:List CExpr} (hT:TreeL e) (hn:e.length≤4096) (hz:∀ x∈e,qbU false (qfW e x)=0):∀ x∈e,qty x:=by
 intro x hx
 have h0:=hz x hx
 unfold qbU at h0
 split at h0
 ·cases h0
 ·have:=qpd h0 (by unfold qfW;rw[List.length_map];have:=qr7 e hT x hx;omega)
  unfold qty
  unfold qfW at this
  dsimp only at this
  omega
theorem qi9 {e:List CExpr} (h:qaN e=0) (hf:∀ x∈e,NodeFit x):TFit (qbl e)∧qaM (qbl e)=e.length:=by
 obtain⟨a,b,c,d,_,_⟩:=qbo h
 exact⟨qoH e a.ahead hf (qpt a b d) _ (by have:=a.pos;omega),qf1 e a⟩
mutual
theorem qiJ:∀ (t:CTree) (b:Nat),TFit t→∀ x∈qdZ t b,NodeFit x
 | .mk op n binds kids alts,b,h => by
   cases h with
   | mk _ _ _ _ _ hb hk ha hfk =>
     rw[qdZ]
     intro x hx
     rcases List.mem_append.1 hx with hx | hx
     ·exact qmW kids b hfk x hx
     ·rw[List.mem_singleton.1 hx]
      rw[List.length_append] at hb
      exact⟨by dsimp only;omega,by dsimp only;rw[qjS];exact hk,ha,fun a hm=>by have:=qiy alts hm;omega⟩
theorem qmW:∀ (ks:List CTree) (b:Nat),(∀ k∈ks,TFit k)→∀ x∈qbk ks b,NodeFit x
 | [],b,_=>by rw[qbk];intro x hx;cases hx
 | k :: ks,b,h => by
   rw[qbk]
   intro x hx
   rcases List.mem_append.1 hx with hx | hx
   ·exact qiJ k b (h k (by simp)) x hx
   ·exact qmW ks _ (fun y hy=>h y (by simp[hy])) x hx
end
theorem qp4 {e:List CExpr} (h:qaN e=0):qaN (qa3 (qbl e))=0:=by
 obtain⟨a,b,c,d,f,g⟩:=qbo h
 have hT:=qnD (qbl e)
 have hg:=qfV (qbl e)
 have hp1:=qec e a
 have hp2:=qec _ hT
 rw[hg] at hp2
 have hp:(e.map (qfW e)).Perm ((qa3 (qbl e)).map (qfW (qa3 (qbl e)))):=hp1.symm.trans hp2
 refine qtN hT ?_ ?_ ?_ ?_ ?_
 ·unfold qa3
  rw[qdU,qf1 e a]
  exact b
 ·rw[hg];exact c
 ·intro x hx
  have hm:qfW (qa3 (qbl e)) x∈e.map (qfW e):=hp.mem_iff.2 (List.mem_map_of_mem hx)
  obtain⟨y,hy,he⟩:=List.mem_map.1 hm
  rw[← he]
  exact d y hy
 ·have hbl:∀ (l:List CExpr),l.flatMap qbw=(l.map (qfW l)).flatMap fun q=>qbS q.op q.binds q.alts:=by
   intro l
   rw[List.flatMap_map]
   rfl
  have hbl2:∀ (l m:List CExpr),m.flatMap qbw=(m.map (qfW l)).flatMap fun q=>qbS q.op q.binds q.alts:=by
   intro l m
   rw[List.flatMap_map]
   rfl
  rw[hbl2 (qa3 (qbl e))]
  rw[hbl2 e] at f
  exact ((hp.flatMap_right _).nodup_iff).1 f
 ·rw[hg];exact g
section
end
section
end
section
end
theorem qhj {e:List CExpr} (h:TreeL e):∀ p,∀ j∈qbi e p,j<p:=by
 intro p j hj
 unfold qbi at hj
 cases hq:e[p]? with
 | none=>rw[hq] at hj;cases hj
 | some x =>
   rw[hq] at hj
   obtain⟨k,hk,rfl⟩:=List.mem_map.1 hj
   obtain⟨hp,rfl⟩:=List.getElem?_eq_some_iff.1 hq
   have:=h.ahead p hp k hk
   omega
theorem qvc (e:List CExpr) (hk:qeV e):∀ (i:Nat),i<e.length→∃ X:List Nat,qkt (qbb e i)=X.map (qbb e)∧X.Perm (i::X.flatMap (qbi e))∧∀ x∈X,x≤i:=by
 intro i
 induction i using Nat.strongRecOn with
 | ind i ih =>
   intro hi
   have key:∀ ks:List Int,(∀ k∈ks,0≤k∧k<i)→∃ Y:List Nat,qdt (ks.map fun k=>qbb e k.toNat)=Y.map (qbb e)∧Y.Perm (ks.map Int.toNat++Y.flatMap (qbi e))∧∀ y∈Y,y<i:=by
    intro ks
    induction ks with
    | nil=>intro _;exact⟨[],by rw[List.map_nil,qdt];rfl,.refl _,by simp⟩
    | cons k ks ihk =>
      intro h
      obtain⟨k0,k1⟩:=h k (by simp)
      obtain⟨Y,y1,y2,y3⟩:=ihk fun x hx=>h x (by simp[hx])
      obtain⟨X,x1,x2,x3⟩:=ih k.toNat (by omega) (by omega)
      refine⟨X++Y,by rw[List.map_cons,qdt,x1,y1,List.map_append],?_,fun z hz=>?_⟩
      ·rw[List.flatMap_append,List.map_cons,List.cons_append]
       refine (x2.append y2).trans ?_
       rw[List.cons_append]
       refine List.Perm.cons _ ?_
       rw[← List.append_assoc,← List.append_assoc]
       exact List.perm_append_comm.append_right _
      ·rcases List.mem_append.1 hz with hz | hz
       ·have:=x3 z hz;omega
       ·exact y3 z hz
   obtain⟨Y,y1,y2,y3⟩:=key e[i].kids (hk i hi)
   have hki:qbi e i=e[i].kids.map Int.toNat:=by unfold qbi;rw[List.getElem?_eq_getElem hi]
   refine⟨Y++[i],?_,?_,?_⟩
   ·rw[List.map_append,← y1]
    have h1:=qcO e hk i hi
    show _=_++[qbb e i]
    rw[h1,qkt]
   ·rw[List.flatMap_append,List.flatMap_cons,List.flatMap_nil,List.append_nil,hki]
    refine List.perm_append_comm.trans ?_
    rw[List.cons_append,List.nil_append]
    exact List.Perm.cons _ (y2.trans List.perm_append_comm)
   ·intro x hx
    rcases List.mem_append.1 hx with hx | hx
    ·have:=y3 x hx;omega
    ·have:=List.mem_singleton.1 hx;omega
theorem qs6 (e:List CExpr) (h:TreeL e):(qkt (qbl e)).Perm ((List.range e.length).map (qbb e)):=by
 have hpos:=h.pos
 obtain⟨X,x1,x2,x3⟩:=qvc e h.ahead (e.length-1) (by omega)
 have hperm:X.Perm (List.range e.length):=by
  rw[List.perm_iff_count]
  intro j
  by_cases hj:j<e.length
  ·exact (qe7 (qbi e) (qhj h) (e.length-1) e.length X (List.range e.length) x2 (qdV e h) (fun x hx=>by have:=x3 x hx;omega) (fun y hy=>List.mem_range.1 hy) (e.length-j) j (by omega)).1
  ·rw[List.count_eq_zero.2 (fun hm=>by have:=x3 j hm;omega),List.count_eq_zero.2 (fun hm=>by have:=List.mem_range.1 hm;omega)]
 rw[qg4,x1]
 exact hperm.map _
theorem qvH {e:List CExpr} (h:TreeL e) (n:Nat) (hn:n<e.length):qbb e n∈qkt (qbl e) :=
 (qs6 e h).mem_iff.2 (List.mem_map_of_mem (List.mem_range.2 hn))
mutual
theorem qiN:∀ (t s:CTree),s∈qkt t→qaM s≤qaM t∧hgt s≤hgt t∧(qbN s).Sublist (qbN t)
 | .mk op n binds kids alts,s,h => by
   rw[qkt] at h
   rcases List.mem_append.1 h with h | h
   ·obtain⟨a,b,c⟩:=qnz kids s h
    refine⟨by rw[qaM];omega,by rw[hgt];omega,?_⟩
    rw[qbN]
    exact c.trans (List.sublist_append_left _ _)
   ·rw[List.mem_singleton.1 h]
    exact⟨Nat.le_refl _,Nat.le_refl _,List.Sublist.refl _⟩
theorem qnz:∀ (ks:List CTree) (s:CTree),s∈qdt ks→qaM s≤qaz ks∧hgt s≤qdi ks∧(qbN s).Sublist (qbO ks)
 | [],s,h=>by rw[qdt] at h;cases h
 | k :: ks,s,h => by
   rw[qdt] at h
   rw[qaz,qdi,qbO]
   rcases List.mem_append.1 h with h | h
   ·obtain⟨a,b,c⟩:=qiN k s h
    exact⟨by omega,by omega,c.trans (List.sublist_append_left _ _)⟩
   ·obtain⟨a,b,c⟩:=qnz ks s h
    exact⟨by omega,by omega,c.trans (List.sublist_append_right _ _)⟩
end
theorem qig {α β:Type} (f:α→List β) {l m:List α} (h:l.Sublist m):(l.flatMap f).Sublist (m.flatMap f):=by
 induction h with
 | slnil=>exact List.Sublist.refl _
 | cons a _ ih=>rw[List.flatMap_cons];exact ih.trans (List.sublist_append_right _ _)
 | cons_cons a _ ih=>rw[List.flatMap_cons,List.flatMap_cons];exact (List.Sublist.refl _).append ih
def qdT (l:Lab):List Int:=qbS l.op l.binds l.alts
structure TOk (t:CTree):Prop where
 size:qaM t≤4096
 deep:hgt t≤400
 lab:∀ l∈qbN t,qbU false l=0
 once:((qbN t).flatMap qdT).Nodup
theorem qxV {t s:CTree} (h:TOk t) (hs:s∈qkt t):TOk s:=by
 obtain⟨a,b,c⟩:=qiN t s hs
 exact⟨by have:=h.size;omega,by have:=h.deep;omega,fun l hl=>h.lab l (c.subset hl),h.once.sublist (qig _ c)⟩
theorem qn5 (e l:List CExpr):l.flatMap qbw=(l.map (qfW e)).flatMap qdT:=by
 rw[List.flatMap_map]
 rfl
theorem qta {e:List CExpr} (h:qaN e=0):TOk (qbl e):=by
 obtain⟨a,b,c,d,f,g⟩:=qbo h
 have hp:=qec e a
 refine⟨by rw[qf1 e a];exact b,c,fun l hl=>?_,?_⟩
 ·obtain⟨x,hx,rfl⟩:=List.mem_map.1 (hp.mem_iff.1 hl)
  exact d x hx
 ·rw[qn5 e] at f
  exact ((hp.flatMap_right _).nodup_iff).2 f
theorem qjY {e:List CExpr} (hz:qaN e=0) (hf:∀ x∈e,NodeFit x) (n:Nat) (hn:n<e.length):TFit (qbb e n):=by
 obtain⟨hT,hn2,hh,hlab,_⟩:=qbo hz
 exact qoH e hT.ahead hf (qpt hT hn2 hlab) n hn
section
end
section
end
mutual
def qd1 (v:Int):CTree→Prop
 | .mk op n binds kids alts=>(op=0∧n=v)∨qdO v op binds alts kids 0
def qdO (v op:Int) (binds:List Int) (alts:List CAlt):List CTree→Nat→Prop
 | [],_=>False
 | k::ks,i=>(qd1 v k∧v∉qbu op binds alts i)∨qdO v op binds alts ks (i+1)
end
theorem qfb (v op:Int) (binds:List Int) (alts:List CAlt):∀ (ks:List CTree) (i:Nat),qdO v op binds alts ks i↔∃ j,∃ hj:j<ks.length,qd1 v ks[j]∧v∉qbu op binds alts (i+j)
 | [],i=>by rw[qdO];simp
 | k :: ks,i => by
   rw[qdO,qfb v op binds alts ks (i+1)]
   constructor
   ·rintro (h | ⟨j,hj,h⟩)
    ·exact⟨0,by simp,by simpa using h⟩
    ·exact⟨j+1,by simpa using hj,by simpa[Nat.add_assoc,Nat.add_comm 1 j] using h⟩
   ·rintro ⟨j,hj,h⟩
    cases j with
    | zero=>exact .inl (by simpa using h)
    | succ j=>exact .inr ⟨j,by simpa using hj,by simpa[Nat.add_assoc,Nat.add_comm 1 j] using h⟩
theorem qht {β:Type} (v:Int):∀ m:IM β,(qbK v m).isSome=true↔v∈qb4 m
 | []=>by simp[qbK,qb4]
 | p :: m => by
   unfold qbK qb4
   rw[List.map_cons,List.mem_cons]
   by_cases h:v=p.1
   ·simp[h]
   ·rw[if_neg h]
    have:=qht v m
    unfold qb4 at this
    rw[this]
    simp[h]
theorem quC {β:Type} (v w:Int) (b:β) (m:IM β):v∈qb4 (qoA w b m)↔v=w∨v∈qb4 m:=by
 rw[← qht,← qht,qgQ]
 by_cases h:v=w<;>simp[h]
def NN (b:IM Int):Prop:=∀ u,0≤qdg u b
theorem NN.up {b:IM Int} (h:NN b) (l:List Int):NN (l.foldl (qfd 1) b):=by
 intro u
 rw[qbW]
 have:=h u
 unfold qx4
 omega
theorem qx0 {b:IM Int} (h:NN b) (l:List Int) (v:Int):qdg v (l.foldl (qfd 1) b)=0↔qdg v b=0∧v∉l:=by
 rw[qbW]
 have h1:=h v
 have h2:(l.count v:Int)=0↔v∉l:=by
  rw[← List.count_eq_zero (a:=v)]
  omega
 unfold qx4
 constructor
 ·intro hx
  exact⟨by omega,h2.1 (by omega)⟩
 ·rintro ⟨a,c⟩
  have:=h2.2 c
  omega
mutual
theorem qpj (v:Int):∀ (t:CTree) (s:FS),NN s.1→(v∈qb4 (qdn t s).2↔v∈qb4 s.2∨(qd1 v t∧qdg v s.1=0))
 | .mk op n binds kids alts,s,hn => by
   rw[qdn,qd1]
   have h1:(qcJ op n s).1=s.1:=by unfold qcJ;split<;>rfl
   rw[qmB v op binds alts kids 0 _ (by rw[h1];exact hn),h1]
   unfold qcJ
   split
   ·rename_i h
    rw[quC]
    constructor
    ·rintro ((rfl | a) | a)
     ·exact .inr ⟨.inl ⟨h.1,rfl⟩,h.2⟩
     ·exact .inl a
     ·exact .inr ⟨.inr a.1,a.2⟩
    ·rintro (a | ⟨⟨_,rfl⟩ | a,c⟩)
     ·exact .inl (.inr a)
     ·exact .inl (.inl rfl)
     ·exact .inr ⟨a,c⟩
   ·rename_i h
    constructor
    ·rintro (a | a)
     ·exact .inl a
     ·exact .inr ⟨.inr a.1,a.2⟩
    ·rintro (a | ⟨⟨h0,rfl⟩ | a,c⟩)
     ·exact .inl a
     ·exact absurd ⟨h0,c⟩ h
     ·exact .inr ⟨a,c⟩
theorem qmB (v op:Int) (binds:List Int) (alts:List CAlt):∀ (ks:List CTree) (k:Nat) (s:FS),NN s.1→(v∈qb4 (qdh op binds alts ks k s).2↔v∈qb4 s.2∨(qdO v op binds alts ks k∧qdg v s.1=0))
 | [],k,s,hn=>by rw[qdh,qdO];simp
 | kid :: ks,k,s,hn => by
   rw[qdh,qdO]
   have hup:=hn.up (qbu op binds alts k)
   have hb:∀ u,qdg u ((qbu op binds alts k).foldl (qfd (-1)) (qdn kid ((qbu op binds alts k).foldl (qfd 1) s.1,s.2)).1)=qdg u s.1:=by
    intro u
    rw[qbW,qg2,qbW]
    omega
   rw[qmB v op binds alts ks (k+1) _ (fun u=>by rw[hb u];exact hn u)]
   dsimp only
   rw[hb v,qpj v kid _ hup]
   dsimp only
   rw[qx0 hn]
   constructor
   ·rintro ((a | ⟨a,c,d⟩) | ⟨a,c⟩)
    ·exact .inl a
    ·exact .inr ⟨.inl ⟨a,d⟩,c⟩
    ·exact .inr ⟨.inr a,c⟩
   ·rintro (a | ⟨⟨a,d⟩ | a,c⟩)
    ·exact .inl (.inl a)
    ·exact .inl (.inr ⟨a,c,d⟩)
    ·exact .inr ⟨a,c⟩
end
theorem qqg (t:CTree) (v:Int):v∈qeR t↔qd1 v t:=by
 unfold qeR
 rw[(qck _).mem_iff,qpj v t ([],[]) (fun u=>by simp[qdg,qbK])]
 simp[qb4,qdg,qbK]
end Go.Abs
