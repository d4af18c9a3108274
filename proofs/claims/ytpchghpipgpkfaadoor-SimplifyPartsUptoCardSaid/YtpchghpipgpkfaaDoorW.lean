/-
  PARTS OF A PROOF, joined: an abstract machine for quiet code, its evaluation, and what the seat's functions answer on it. Conditions: none.
-/
import Derived.Test.YtpchghpipgpkfaaDoorCS
import Derived.Test.YtpchghpipgpkfaaDoorC
set_option linter.unusedVariables false
set_option linter.unusedSimpArgs false
set_option maxRecDepth 100000
set_option maxHeartbeats 4000000
namespace Go.Abs
structure CLib2 (L:Lib):Prop extends CLib L where
 f132:L.fns 132=some fn132
 f133:L.fns 133=some fn133
 f139:L.fns 139=some fn139
 f154:L.fns 154=some fn154
 list:∀ (t:CTree),TFit t→qaM t<2 ^ 30→∀ h:Heap,pcall L 159 [qaB t] h=some (.val (.list ((qa6 t).map qal) none),h)
 f161:L.fns 161=some fn161
 f162:L.fns 162=some fn162
 f163:L.fns 163=some fn163
 f164:L.fns 164=some fn164
 f177:L.fns 177=some fn177
 f183:L.fns 183=some fn183
 f189:L.fns 189=some fn189
def IdMap (m:IM Int):Prop:=∀ v w,qbS v m=some w→w=v
theorem IdMap.put {m:IM Int} (h:IdMap m) (v:Int):IdMap (qpB v v m):=by
 intro x w hx
 rw[qjd] at hx
 split at hx
 ·injection hx with hx
  omega
 ·exact h x w hx
theorem IdMap.zip:∀ (l:List Int) {m:IM Int},IdMap m→IdMap (qyo l l m)
 | [],m,h=>h
 | x::l,m,h=>IdMap.zip l (h.put x)
theorem qby {e:List CExpr} (h:qaR e=0):TreeL e∧e.length≤4096∧hgt (qbn e)≤400∧(∀ x∈e,qb5 false (qfP e x)=0)∧(e.flatMap qbv).Nodup∧qf4 (qbn e)=[]:=by
 unfold qaR qiR at h
 by_cases h1:qeJ e=0
 ·rw[if_neg (fun hx=>hx h1)] at h
  obtain⟨a,b,c⟩:=(qfk e).1 h1
  by_cases h2:qbE (e.map fun x=>qb5 false (qfP e x))=0
  ·rw[if_neg (fun hx=>hx h2)] at h
   rw[qjZ] at h
   by_cases h3:(e.flatMap qbv).Nodup
   ·simp only[h3,decide_true,Bool.not_true,Bool.false_eq_true,if_false] at h
    refine⟨a,b,c,(qdj _ e).1 h2,h3,?_⟩
    cases hf:qf4 (qbn e) with
    | nil=>rfl
    | cons n l=>rw[hf] at h;simp[qqQ] at h
   ·simp only[h3,decide_false,Bool.not_false,if_true] at h
    cases h
  ·rw[if_pos h2] at h
   exact absurd h h2
 ·rw[if_pos h1] at h
  exact absurd h h1
theorem qtF {e:List CExpr} (a:TreeL e) (b:e.length≤4096) (c:hgt (qbn e)≤400) (d:∀ x∈e,qb5 false (qfP e x)=0) (f:(e.flatMap qbv).Nodup) (g:qf4 (qbn e)=[]):qaR e=0:=by
 unfold qaR qiR
 rw[if_neg (fun hx=>hx ((qfk e).2 ⟨a,b,c⟩)),if_neg (fun hx=>hx ((qdj _ e).2 d)),qjZ,g]
 simp[f]
theorem qpn {e:List CExpr} (hT:TreeL e) (hn:e.length≤4096) (hz:∀ x∈e,qb5 false (qfP e x)=0):∀ x∈e,qtp x:=by
 intro x hx
 have h0:=hz x hx
 unfold qb5 at h0
 split at h0
 ·cases h0
 ·have:=qo8 h0 (by unfold qfP;rw[List.length_map];have:=qr0 e hT x hx;omega)
  unfold qtp
  unfold qfP at this
  dsimp only at this
  omega
theorem qi0 {e:List CExpr} (h:qaR e=0) (hf:∀ x∈e,NodeFit x):TFit (qbn e)∧qaM (qbn e)=e.length:=by
 obtain⟨a,b,c,d,_,_⟩:=qby h
 exact⟨qoF e a.ahead hf (qpn a b d) _ (by have:=a.pos;omega),qfV e a⟩
mutual
theorem qiB:∀ (t:CTree) (b:Nat),TFit t→∀ x∈qdT t b,NodeFit x
 | .mk op n binds kids alts,b,h => by
   cases h with
   | mk _ _ _ _ _ hb hk ha hfk =>
     rw[qdT]
     intro x hx
     rcases List.mem_append.1 hx with hx | hx
     ·exact qmR kids b hfk x hx
     ·rw[List.mem_singleton.1 hx]
      rw[List.length_append] at hb
      exact⟨by dsimp only;omega,by dsimp only;rw[qjN];exact hk,ha,fun a hm=>by have:=qin alts hm;omega⟩
theorem qmR:∀ (ks:List CTree) (b:Nat),(∀ k∈ks,TFit k)→∀ x∈qbl ks b,NodeFit x
 | [],b,_=>by rw[qbl];intro x hx;cases hx
 | k :: ks,b,h => by
   rw[qbl]
   intro x hx
   rcases List.mem_append.1 hx with hx | hx
   ·exact qiB k b (h k (by simp)) x hx
   ·exact qmR ks _ (fun y hy=>h y (by simp[hy])) x hx
end
theorem qp1 {e:List CExpr} (h:qaR e=0):qaR (qa6 (qbn e))=0:=by
 obtain⟨a,b,c,d,f,g⟩:=qby h
 have hT:=qnx (qbn e)
 have hg:=qfO (qbn e)
 have hp1:=qfS e a
 have hp2:=qfS _ hT
 rw[hg] at hp2
 have hp:(e.map (qfP e)).Perm ((qa6 (qbn e)).map (qfP (qa6 (qbn e)))):=hp1.symm.trans hp2
 refine qtF hT ?_ ?_ ?_ ?_ ?_
 ·unfold qa6
  rw[qdN,qfV e a]
  exact b
 ·rw[hg];exact c
 ·intro x hx
  have hm:qfP (qa6 (qbn e)) x∈e.map (qfP e):=hp.mem_iff.2 (List.mem_map_of_mem hx)
  obtain⟨y,hy,he⟩:=List.mem_map.1 hm
  rw[← he]
  exact d y hy
 ·have hbl:∀ (l:List CExpr),l.flatMap qbv=(l.map (qfP l)).flatMap fun q=>qc3 q.op q.binds q.alts:=by
   intro l
   rw[List.flatMap_map]
   rfl
  have hbl2:∀ (l m:List CExpr),m.flatMap qbv=(m.map (qfP l)).flatMap fun q=>qc3 q.op q.binds q.alts:=by
   intro l m
   rw[List.flatMap_map]
   rfl
  rw[hbl2 (qa6 (qbn e))]
  rw[hbl2 e] at f
  exact ((hp.flatMap_right _).nodup_iff).1 f
 ·rw[hg];exact g
section
variable {L:Lib} (hC:CLib2 L)
include hC
theorem qy8 (e:List CExpr) (i:Nat) (hi:i<e.length) (hf:NodeFit e[i]) :
  qa5 L.pure (call L) 0 [0,1,5,13,14,89,90] [0,1,4,13,14] 2 qio ⟨kt [0,1,5,13,14,89,90] [.list (e.map qal) none,.list (e.map qal) none,.int .i64 i,.int .i64 e.length,.int .i64 i,.int .i64 e[i].alts.length,.int .i64 ((0:Nat):Int)],[]⟩ =
   some (.normal,⟨kt [0,1,4,13,14] [.list (e.map qal) none,.list (e.map qal) none,.junk,.int .i64 e.length,.int .i64 i],[]⟩):=by
 have hL:=hC.plain
 have hp:=hL.pure
 have hdE:=qaJ e
 have hx:(e.map qal)[i]? = some (qal e[i]):=by simp[hi]
 generalize e[i]=x at *
 refine qez (fun j=>⟨kt [0,1,5,13,14,89,90] [.list (e.map qal) none,.list (e.map qal) none,.int .i64 i,.int .i64 e.length,.int .i64 i,.int .i64 x.alts.length,.int .i64 j],[]⟩) x.alts.length ?_ ?_
 ·intro j hj
  obtain⟨h1,h2,h3⟩:=qaN qax x.alts hf.alts j hj
  have he:=qi7 hL hC.f163 x.alts[j].binds x.alts[j].binds (hf.each _ (List.getElem_mem hj))
  rw[decide_eq_true rfl] at he
  generalize x.alts[j]=a at *
  unfold qio
  simp -implicitDefEqProofs only[ev_,aOp,opd,qaa,qau,qat,aUn,qad,qab,qaf,qag,qah,qav,ren,renC,qa3,qbd,qaC,↓reduceIte,reduceCtorEq,Nat.reduceEqDiff,Nat.reduceAdd,qar,qaU,qaS,qai,h1,h2,h3,hx,he,hdE,qam L hp,hp,bne]
 ·have h0:=qaO x.alts.length
  unfold qio
  simp -implicitDefEqProofs only[ev_,aOp,opd,qaa,qau,qat,qab,gcE,qav,ren,renC,qa3,qbd,↓reduceIte,reduceCtorEq,Nat.reduceEqDiff,h0,hdE]
theorem qoB (e:List CExpr) (hl:e.length<2 ^ 30) (hf:∀ x∈e,NodeFit x) (h:Heap):pcall L 132 [.list (e.map qal) none,.list (e.map qal) none] h=some (.val (.bool true),h):=by
 have hL:=hC.plain
 have hp:=hL.pure
 have hdE:=qaJ e
 have hloop:qa5 L.pure (call L) 0 [0,1,13,14] [4] 0 qip ⟨kt [0,1,13,14] [.list (e.map qal) none,.list (e.map qal) none,.int .i64 e.length,.int .i64 ((0:Nat):Int)],[]⟩=some (.normal,⟨kt [4] [.junk],[]⟩):=by
  refine qez (fun i=>⟨kt [0,1,13,14] [.list (e.map qal) none,.list (e.map qal) none,.int .i64 e.length,.int .i64 i],[]⟩) e.length ?_ ?_
  ·intro i hi
   obtain⟨h1,h2,h3⟩:=qaN qal e hl i hi
   have hx:=hf e[i] (List.getElem_mem hi)
   have hl0:=qy8 hC e i hi hx
   simp only[Int.natCast_zero] at hl0
   have he1:=qi7 hL hC.f163 e[i].binds e[i].binds hx.binds
   have he2:=qi7 hL hC.f163 e[i].kids e[i].kids hx.kids
   rw[decide_eq_true rfl] at he1 he2
   generalize e[i]=x at *
   unfold qip
   simp -implicitDefEqProofs only[ev_,aOp,opd,qaa,qau,qbc,qat,aUn,qad,qab,qaf,qag,qah,qav,ren,renC,qa3,qbd,qaC,↓reduceIte,reduceCtorEq,Nat.reduceEqDiff,Nat.reduceAdd,qar,qaS,qai,h1,h2,h3,hl0,he1,he2,hdE,qam L hp,hp,bne]
  ·have h0:=qaO e.length
   unfold qip
   simp -implicitDefEqProofs only[ev_,aOp,opd,qaa,qau,qat,qab,gcE,qav,ren,renC,qa3,qbd,↓reduceIte,reduceCtorEq,Nat.reduceEqDiff,h0,hdE]
 simp only[Int.natCast_zero] at hloop
 refine qaX hL hC.f132 rfl ?_ h
 unfold fn132
 simp -implicitDefEqProofs only[ev_,aOp,opd,qaa,qau,qbc,qat,qab,qan,qac,qae,qaj,qav,ren,renC,qa3,qbd,↓reduceIte,reduceCtorEq,Nat.reduceEqDiff,qak,hloop,hdE,bne]
end
section
end
section
end
theorem qhd {e:List CExpr} (h:TreeL e):∀ p,∀ j∈qbj e p,j<p:=by
 intro p j hj
 unfold qbj at hj
 cases hq:e[p]? with
 | none=>rw[hq] at hj;cases hj
 | some x =>
   rw[hq] at hj
   obtain⟨k,hk,rfl⟩:=List.mem_map.1 hj
   obtain⟨hp,rfl⟩:=List.getElem?_eq_some_iff.1 hq
   have:=h.ahead p hp k hk
   omega
theorem qu3 (e:List CExpr) (hk:qeO e):∀ (i:Nat),i<e.length→∃ X:List Nat,qnO (qbk e i)=X.map (qbk e)∧X.Perm (i::X.flatMap (qbj e))∧∀ x∈X,x≤i:=by
 intro i
 induction i using Nat.strongRecOn with
 | ind i ih =>
   intro hi
   have key:∀ ks:List Int,(∀ k∈ks,0≤k∧k<i)→∃ Y:List Nat,qeS (ks.map fun k=>qbk e k.toNat)=Y.map (qbk e)∧Y.Perm (ks.map Int.toNat++Y.flatMap (qbj e))∧∀ y∈Y,y<i:=by
    intro ks
    induction ks with
    | nil=>intro _;exact⟨[],by rw[List.map_nil,qeS];rfl,.refl _,by simp⟩
    | cons k ks ihk =>
      intro h
      obtain⟨k0,k1⟩:=h k (by simp)
      obtain⟨Y,y1,y2,y3⟩:=ihk fun x hx=>h x (by simp[hx])
      obtain⟨X,x1,x2,x3⟩:=ih k.toNat (by omega) (by omega)
      refine⟨X++Y,by rw[List.map_cons,qeS,x1,y1,List.map_append],?_,fun z hz=>?_⟩
      ·rw[List.flatMap_append,List.map_cons,List.cons_append]
       refine (x2.append y2).trans ?_
       rw[List.cons_append]
       refine List.Perm.cons _ ?_
       rw[← List.append_assoc,← List.append_assoc]
       exact List.perm_append_comm.append_right _
      ·rcases List.mem_append.1 hz with hz | hz
       ·have:=x3 z hz;omega
       ·exact y3 z hz
   obtain⟨Y,y1,y2,y3⟩:=key e[i].kids (hk i hi)
   have hki:qbj e i=e[i].kids.map Int.toNat:=by unfold qbj;rw[List.getElem?_eq_getElem hi]
   refine⟨Y++[i],?_,?_,?_⟩
   ·rw[List.map_append,← y1]
    have h1:=qcK e hk i hi
    show _=_++[qbk e i]
    rw[h1,qnO]
   ·rw[List.flatMap_append,List.flatMap_cons,List.flatMap_nil,List.append_nil,hki]
    refine List.perm_append_comm.trans ?_
    rw[List.cons_append,List.nil_append]
    exact List.Perm.cons _ (y2.trans List.perm_append_comm)
   ·intro x hx
    rcases List.mem_append.1 hx with hx | hx
    ·have:=y3 x hx;omega
    ·have:=List.mem_singleton.1 hx;omega
theorem qsY (e:List CExpr) (h:TreeL e):(qnO (qbn e)).Perm ((List.range e.length).map (qbk e)):=by
 have hpos:=h.pos
 obtain⟨X,x1,x2,x3⟩:=qu3 e h.ahead (e.length-1) (by omega)
 have hperm:X.Perm (List.range e.length):=by
  rw[List.perm_iff_count]
  intro j
  by_cases hj:j<e.length
  ·exact (qe1 (qbj e) (qhd h) (e.length-1) e.length X (List.range e.length) x2 (qdO e h) (fun x hx=>by have:=x3 x hx;omega) (fun y hy=>List.mem_range.1 hy) (e.length-j) j (by omega)).1
  ·rw[List.count_eq_zero.2 (fun hm=>by have:=x3 j hm;omega),List.count_eq_zero.2 (fun hm=>by have:=List.mem_range.1 hm;omega)]
 rw[qgX,x1]
 exact hperm.map _
theorem qys {e:List CExpr} (h:TreeL e) (n:Nat) (hn:n<e.length):qbk e n∈qnO (qbn e) :=
 (qsY e h).mem_iff.2 (List.mem_map_of_mem (List.mem_range.2 hn))
mutual
theorem qpG:∀ (t s:CTree),s∈qnO t→qaM s≤qaM t∧hgt s≤hgt t∧(qcM s).Sublist (qcM t)
 | .mk op n binds kids alts,s,h => by
   rw[qnO] at h
   rcases List.mem_append.1 h with h | h
   ·obtain⟨a,b,c⟩:=qnt kids s h
    refine⟨by rw[qaM];omega,by rw[hgt];omega,?_⟩
    rw[qcM]
    exact c.trans (List.sublist_append_left _ _)
   ·rw[List.mem_singleton.1 h]
    exact⟨Nat.le_refl _,Nat.le_refl _,List.Sublist.refl _⟩
theorem qnt:∀ (ks:List CTree) (s:CTree),s∈qeS ks→qaM s≤qaz ks∧hgt s≤qdg ks∧(qcM s).Sublist (qde ks)
 | [],s,h=>by rw[qeS] at h;cases h
 | k :: ks,s,h => by
   rw[qeS] at h
   rw[qaz,qdg,qde]
   rcases List.mem_append.1 h with h | h
   ·obtain⟨a,b,c⟩:=qpG k s h
    exact⟨by omega,by omega,c.trans (List.sublist_append_left _ _)⟩
   ·obtain⟨a,b,c⟩:=qnt ks s h
    exact⟨by omega,by omega,c.trans (List.sublist_append_right _ _)⟩
end
theorem qnr {α β:Type} (f:α→List β) {l m:List α} (h:l.Sublist m):(l.flatMap f).Sublist (m.flatMap f):=by
 induction h with
 | slnil=>exact List.Sublist.refl _
 | cons a _ ih=>rw[List.flatMap_cons];exact ih.trans (List.sublist_append_right _ _)
 | cons_cons a _ ih=>rw[List.flatMap_cons,List.flatMap_cons];exact (List.Sublist.refl _).append ih
def qpm (l:Lab):List Int:=qc3 l.op l.binds l.alts
structure TOk (t:CTree):Prop where
 size:qaM t≤4096
 deep:hgt t≤400
 lab:∀ l∈qcM t,qb5 false l=0
 once:((qcM t).flatMap qpm).Nodup
theorem qxG {t s:CTree} (h:TOk t) (hs:s∈qnO t):TOk s:=by
 obtain⟨a,b,c⟩:=qpG t s hs
 exact⟨by have:=h.size;omega,by have:=h.deep;omega,fun l hl=>h.lab l (c.subset hl),h.once.sublist (qnr _ c)⟩
theorem qnZ (e l:List CExpr):l.flatMap qbv=(l.map (qfP e)).flatMap qpm:=by
 rw[List.flatMap_map]
 rfl
theorem qyt {e:List CExpr} (h:qaR e=0):TOk (qbn e):=by
 obtain⟨a,b,c,d,f,g⟩:=qby h
 have hp:=qfS e a
 refine⟨by rw[qfV e a];exact b,c,fun l hl=>?_,?_⟩
 ·obtain⟨x,hx,rfl⟩:=List.mem_map.1 (hp.mem_iff.1 hl)
  exact d x hx
 ·rw[qnZ e] at f
  exact ((hp.flatMap_right _).nodup_iff).2 f
theorem qjS {e:List CExpr} (hz:qaR e=0) (hf:∀ x∈e,NodeFit x) (n:Nat) (hn:n<e.length):TFit (qbk e n):=by
 obtain⟨hT,hn2,hh,hlab,_⟩:=qby hz
 exact qoF e hT.ahead hf (qpn hT hn2 hlab) n hn
section
end
section
end
def NN (b:IM Int):Prop:=∀ u,0≤qdV u b
theorem NN.up {b:IM Int} (h:NN b) (l:List Int):NN (l.foldl (qf6 1) b):=by
 intro u
 rw[qcP]
 have:=h u
 unfold qxY
 omega
end Go.Abs
