/-
  PARTS OF A PROOF, joined: an abstract machine for quiet code, its evaluation, and what the seat's functions answer on it. Conditions: none.
-/
import Derived.Test.YtpchghpipgpkfaaDoorCS
import Derived.Test.YtpchghpipgpkfaaDoorC
set_option linter.unusedVariables false
set_option linter.unusedSimpArgs false
set_option maxRecDepth 100000
set_option maxHeartbeats 4000000
namespace Go.Abs
structure CLib2 (L:Lib):Prop extends CLib L where
 f130:L.fns 130=some fn130
 f132:L.fns 132=some fn132
 f133:L.fns 133=some fn133
 f139:L.fns 139=some fn139
 f154:L.fns 154=some fn154
 list:∀ (t:CTree),TFit t→qaJ t<2 ^ 30→∀ h:Heap,pcall L 159 [qao t] h=some (.val (.list ((qau t).map qam) none),h)
 f161:L.fns 161=some fn161
 f162:L.fns 162=some fn162
 f163:L.fns 163=some fn163
 f164:L.fns 164=some fn164
 f177:L.fns 177=some fn177
 f183:L.fns 183=some fn183
 f189:L.fns 189=some fn189
def IdMap (m:IM Int):Prop:=∀ v w,qaW v m=some w→w=v
theorem IdMap.put {m:IM Int} (h:IdMap m) (v:Int):IdMap (qlv v v m):=by
 intro x w hx
 rw[qcd] at hx
 split at hx
 ·injection hx with hx
  omega
 ·exact h x w hx
theorem IdMap.zip:∀ (l:List Int) {m:IM Int},IdMap m→IdMap (qd1 l l m)
 | [],m,h=>h
 | x::l,m,h=>IdMap.zip l (h.put x)
theorem qa8 {e:List CExpr} (h:qaD e=0):TreeL e∧e.length≤4096∧hgt (qbD e)≤400∧(∀ x∈e,qbL false (qhb e x)=0)∧(e.flatMap qbB).Nodup∧qda (qbD e)=[]:=by
 unfold qaD qkz at h
 by_cases h1:qeU e=0
 ·rw[if_neg (fun hx=>hx h1)] at h
  obtain⟨a,b,c⟩:=(qgG e).1 h1
  by_cases h2:qb1 (e.map fun x=>qbL false (qhb e x))=0
  ·rw[if_neg (fun hx=>hx h2)] at h
   rw[qlT] at h
   by_cases h3:(e.flatMap qbB).Nodup
   ·simp only[h3,decide_true,Bool.not_true,Bool.false_eq_true,if_false] at h
    refine⟨a,b,c,(qd6 _ e).1 h2,h3,?_⟩
    cases hf:qda (qbD e) with
    | nil=>rfl
    | cons n l=>rw[hf] at h;simp[qsR] at h
   ·simp only[h3,decide_false,Bool.not_false,if_true] at h
    cases h
  ·rw[if_pos h2] at h
   exact absurd h h2
 ·rw[if_pos h1] at h
  exact absurd h h1
theorem qrS {e:List CExpr} (hT:TreeL e) (hn:e.length≤4096) (hz:∀ x∈e,qbL false (qhb e x)=0):∀ x∈e,qwF x:=by
 intro x hx
 have h0:=hz x hx
 unfold qbL at h0
 split at h0
 ·cases h0
 ·have:=qrz h0 (by unfold qhb;rw[List.length_map];have:=qu0 e hT x hx;omega)
  unfold qwF
  unfold qhb at this
  dsimp only at this
  omega
theorem qdO {e:List CExpr} (h:qaD e=0) (hf:∀ x∈e,NodeFit x):TFit (qbD e)∧qaJ (qbD e)=e.length:=by
 obtain⟨a,b,c,d,_,_⟩:=qa8 h
 exact⟨qq8 e a.ahead hf (qrS a b d) _ (by have:=a.pos;omega),qhe e a⟩
mutual
theorem qec:∀ (t:CTree) (b:Nat),TFit t→∀ x∈qdY t b,NodeFit x
 | .mk op n binds kids alts,b,h => by
   cases h with
   | mk _ _ _ _ _ hb hk ha hfk =>
     rw[qdY]
     intro x hx
     rcases List.mem_append.1 hx with hx | hx
     ·exact qo8 kids b hfk x hx
     ·rw[List.mem_singleton.1 hx]
      rw[List.length_append] at hb
      exact⟨by dsimp only;omega,by dsimp only;rw[qlG];exact hk,ha,fun a hm=>by have:=qib alts hm;omega⟩
theorem qo8:∀ (ks:List CTree) (b:Nat),(∀ k∈ks,TFit k)→∀ x∈qbt ks b,NodeFit x
 | [],b,_=>by rw[qbt];intro x hx;cases hx
 | k :: ks,b,h => by
   rw[qbt]
   intro x hx
   rcases List.mem_append.1 hx with hx | hx
   ·exact qec k b (h k (by simp)) x hx
   ·exact qo8 ks _ (fun y hy=>h y (by simp[hy])) x hx
end
def qls (e:List CExpr):List CExpr × Int:=if qaD e=0 then (qau (qbD e),0) else ([],qaD e)
def qlJ (a b:List CExpr):Bool:=(qaD a==0) && (qaD b==0) && (qf9 (qbD a) (qbD b) []).1
section
variable {L:Lib} (hC:CLib2 L)
include hC
theorem qr7 (e:List CExpr) (hl:e.length<2 ^ 30) (hf:∀ x∈e,NodeFit x) (h:Heap) :
  pcall L 130 [.list (e.map qam) none] h=some (.val (.tuple [.list ((qls e).1.map qam) none,.int .i64 (qls e).2]),h):=by
 have hL:=hC.plain
 have hp:=hL.pure
 have hdE:=qaI e
 have hck:=qcW hC.toCLib e hl hf
 refine qaX hL hC.f130 (by simp only[qaH,qax,qaI,Bool.and_self]) ?_ h
 unfold qls
 by_cases hz:qaD e=0
 ·rw[if_pos hz]
  obtain⟨hT,hn,hdp,_⟩:=qa8 hz
  obtain⟨hft,hsz⟩:=qdO hz hf
  have hg:=fun h=>hC.grow e h hl hf hT hdp
  have hls:=hC.list (qbD e) hft (by omega)
  rw[hz] at hck
  have hdL:=qaI (qau (qbD e))
  obtain⟨tc,htc,hdt⟩:=qbC (qbD e)
  rw[htc] at hg hls
  unfold fn130
  simp -implicitDefEqProofs only[ev_,aOp,opd,qaa,qaB,qaA,qab,qan,qac,qae,qaj,↓reduceIte,reduceCtorEq,Nat.reduceEqDiff,qaw,qak,hck,hg,hls,hdE,hdL,hdt,qal L hp,hp,bne]
 ·rw[if_neg hz]
  have hz':(qaD e==0)=false:=by simpa using hz
  unfold fn130
  simp -implicitDefEqProofs only[ev_,aOp,opd,qaa,qaB,qaA,qab,qan,qac,qae,qaj,↓reduceIte,reduceCtorEq,Nat.reduceEqDiff,qaw,qak,hck,hz',hdE,qal L hp,hp,bne]
theorem qto (a b:List CExpr) (ha:a.length<2 ^ 30) (hfa:∀ x∈a,NodeFit x) (hb:b.length<2 ^ 30) (hfb:∀ x∈b,NodeFit x) (h:Heap) :
  pcall L 133 [.list (a.map qam) none,.list (b.map qam) none] h=some (.val (.bool (qlJ a b)),h):=by
 have hL:=hC.plain
 have hp:=hL.pure
 have hdA:=qaI a
 have hdB:=qaI b
 have hca:=qcW hC.toCLib a ha hfa
 have hcb:=qcW hC.toCLib b hb hfb
 refine qaX hL hC.f133 rfl ?_ h
 unfold qlJ
 by_cases hz:qaD a=0
 ·by_cases hy:qaD b=0
  ·rw[hz] at hca
   rw[hy] at hcb
   obtain⟨hT,_,hdp,_⟩:=qa8 hz
   obtain⟨hT',_,hdp',_⟩:=qa8 hy
   obtain⟨hft,_⟩:=qdO hz hfa
   obtain⟨hft',_⟩:=qdO hy hfb
   have hg:=fun h=>hC.grow a h ha hfa hT hdp
   have hg':=fun h=>hC.grow b h hb hfb hT' hdp'
   have hs:=qq4 hL hC.f139 hC.f232 hC.f189 hC.f164 (qbD a) (qbD b) hft hft'
   obtain⟨tc,htc,hdt⟩:=qbC (qbD a)
   obtain⟨tc',htc',hdt'⟩:=qbC (qbD b)
   rw[htc] at hg hs
   rw[htc'] at hg' hs
   rw[hz,hy]
   unfold fn133
   simp -implicitDefEqProofs only[ev_,aOp,opd,qaa,qaB,qaA,qab,qaf,qan,qac,qae,qaj,↓reduceIte,reduceCtorEq,Nat.reduceEqDiff,qaw,qak,hca,hcb,hg,hg',hs,hdA,hdB,hdt,hdt',qal L hp,hp]
  ·have hy':(qaD b==0)=false:=by simpa using hy
   rw[hz] at hca
   rw[hz,hy']
   unfold fn133
   simp -implicitDefEqProofs only[ev_,aOp,opd,qaa,qaB,qaA,qab,qaf,qan,qac,qae,qaj,↓reduceIte,reduceCtorEq,Nat.reduceEqDiff,qaw,qak,hca,hcb,hy',hdA,hdB,qal L hp,hp]
 ·have hz':(qaD a==0)=false:=by simpa using hz
  rw[hz']
  unfold fn133
  simp -implicitDefEqProofs only[ev_,aOp,opd,qaa,qaB,qaA,qab,qaf,qan,qac,qae,qaj,↓reduceIte,reduceCtorEq,Nat.reduceEqDiff,qaw,qak,hca,hz',hdA,hdB,qal L hp,hp]
theorem qCD (e:List CExpr) (i:Nat) (hi:i<e.length) (hf:NodeFit e[i]) :
  qba L.pure (call L) 0 [0,1,5,13,14,89,90] [0,1,4,13,14] 2 qj1 ⟨kt [0,1,5,13,14,89,90] [.list (e.map qam) none,.list (e.map qam) none,.int .i64 i,.int .i64 e.length,.int .i64 i,.int .i64 e[i].alts.length,.int .i64 ((0:Nat):Int)],[]⟩ =
   some (.normal,⟨kt [0,1,4,13,14] [.list (e.map qam) none,.list (e.map qam) none,.junk,.int .i64 e.length,.int .i64 i],[]⟩):=by
 have hL:=hC.plain
 have hp:=hL.pure
 have hdE:=qaI e
 have hx:(e.map qam)[i]? = some (qam e[i]):=by simp[hi]
 generalize e[i]=x at *
 refine qhN (fun j=>⟨kt [0,1,5,13,14,89,90] [.list (e.map qam) none,.list (e.map qam) none,.int .i64 i,.int .i64 e.length,.int .i64 i,.int .i64 x.alts.length,.int .i64 j],[]⟩) x.alts.length ?_ ?_
 ·intro j hj
  obtain⟨h1,h2,h3⟩:=qaN qas x.alts hf.alts j hj
  have he:=qkP hL hC.f163 x.alts[j].binds x.alts[j].binds (hf.each _ (List.getElem_mem hj))
  rw[decide_eq_true rfl] at he
  generalize x.alts[j]=a at *
  unfold qj1
  simp -implicitDefEqProofs only[ev_,aOp,opd,qaa,qaB,qaA,aUn,qad,qab,qaf,qag,qai,qaC,ren,renC,qa9,qbq,qaz,↓reduceIte,reduceCtorEq,Nat.reduceEqDiff,Nat.reduceAdd,qaw,qaZ,qa5,qah,h1,h2,h3,hx,he,hdE,qal L hp,hp,bne]
 ·have h0:=qaQ x.alts.length
  unfold qj1
  simp -implicitDefEqProofs only[ev_,aOp,opd,qaa,qaB,qaA,qab,gcE,qaC,ren,renC,qa9,qbq,↓reduceIte,reduceCtorEq,Nat.reduceEqDiff,h0,hdE]
theorem qq3 (e:List CExpr) (hl:e.length<2 ^ 30) (hf:∀ x∈e,NodeFit x) (h:Heap):pcall L 132 [.list (e.map qam) none,.list (e.map qam) none] h=some (.val (.bool true),h):=by
 have hL:=hC.plain
 have hp:=hL.pure
 have hdE:=qaI e
 have hloop:qba L.pure (call L) 0 [0,1,13,14] [4] 0 qj2 ⟨kt [0,1,13,14] [.list (e.map qam) none,.list (e.map qam) none,.int .i64 e.length,.int .i64 ((0:Nat):Int)],[]⟩=some (.normal,⟨kt [4] [.junk],[]⟩):=by
  refine qhN (fun i=>⟨kt [0,1,13,14] [.list (e.map qam) none,.list (e.map qam) none,.int .i64 e.length,.int .i64 i],[]⟩) e.length ?_ ?_
  ·intro i hi
   obtain⟨h1,h2,h3⟩:=qaN qam e hl i hi
   have hx:=hf e[i] (List.getElem_mem hi)
   have hl0:=qCD hC e i hi hx
   simp only[Int.natCast_zero] at hl0
   have he1:=qkP hL hC.f163 e[i].binds e[i].binds hx.binds
   have he2:=qkP hL hC.f163 e[i].kids e[i].kids hx.kids
   rw[decide_eq_true rfl] at he1 he2
   generalize e[i]=x at *
   unfold qj2
   simp -implicitDefEqProofs only[ev_,aOp,opd,qaa,qaB,qbd,qaA,aUn,qad,qab,qaf,qag,qai,qaC,ren,renC,qa9,qbq,qaz,↓reduceIte,reduceCtorEq,Nat.reduceEqDiff,Nat.reduceAdd,qaw,qa5,qah,h1,h2,h3,hl0,he1,he2,hdE,qal L hp,hp,bne]
  ·have h0:=qaQ e.length
   unfold qj2
   simp -implicitDefEqProofs only[ev_,aOp,opd,qaa,qaB,qaA,qab,gcE,qaC,ren,renC,qa9,qbq,↓reduceIte,reduceCtorEq,Nat.reduceEqDiff,h0,hdE]
 simp only[Int.natCast_zero] at hloop
 refine qaX hL hC.f132 rfl ?_ h
 unfold fn132
 simp -implicitDefEqProofs only[ev_,aOp,opd,qaa,qaB,qbd,qaA,qab,qan,qac,qae,qaj,qaC,ren,renC,qa9,qbq,↓reduceIte,reduceCtorEq,Nat.reduceEqDiff,qak,hloop,hdE,bne]
end
section
end
section
end
theorem qiK {e:List CExpr} (h:TreeL e):∀ p,∀ j∈qbm e p,j<p:=by
 intro p j hj
 unfold qbm at hj
 cases hq:e[p]? with
 | none=>rw[hq] at hj;cases hj
 | some x =>
   rw[hq] at hj
   obtain⟨k,hk,rfl⟩:=List.mem_map.1 hj
   obtain⟨hp,rfl⟩:=List.getElem?_eq_some_iff.1 hq
   have:=h.ahead p hp k hk
   omega
theorem qyh (e:List CExpr) (hk:qdr e):∀ (i:Nat),i<e.length→∃ X:List Nat,ql0 (qaG e i)=X.map (qaG e)∧X.Perm (i::X.flatMap (qbm e))∧∀ x∈X,x≤i:=by
 intro i
 induction i using Nat.strongRecOn with
 | ind i ih =>
   intro hi
   have key:∀ ks:List Int,(∀ k∈ks,0≤k∧k<i)→∃ Y:List Nat,qeg (ks.map fun k=>qaG e k.toNat)=Y.map (qaG e)∧Y.Perm (ks.map Int.toNat++Y.flatMap (qbm e))∧∀ y∈Y,y<i:=by
    intro ks
    induction ks with
    | nil=>intro _;exact⟨[],by rw[List.map_nil,qeg];rfl,.refl _,by simp⟩
    | cons k ks ihk =>
      intro h
      obtain⟨k0,k1⟩:=h k (by simp)
      obtain⟨Y,y1,y2,y3⟩:=ihk fun x hx=>h x (by simp[hx])
      obtain⟨X,x1,x2,x3⟩:=ih k.toNat (by omega) (by omega)
      refine⟨X++Y,by rw[List.map_cons,qeg,x1,y1,List.map_append],?_,fun z hz=>?_⟩
      ·rw[List.flatMap_append,List.map_cons,List.cons_append]
       refine (x2.append y2).trans ?_
       rw[List.cons_append]
       refine List.Perm.cons _ ?_
       rw[← List.append_assoc,← List.append_assoc]
       exact List.perm_append_comm.append_right _
      ·rcases List.mem_append.1 hz with hz | hz
       ·have:=x3 z hz;omega
       ·exact y3 z hz
   obtain⟨Y,y1,y2,y3⟩:=key e[i].kids (hk i hi)
   have hki:qbm e i=e[i].kids.map Int.toNat:=by unfold qbm;rw[List.getElem?_eq_getElem hi]
   refine⟨Y++[i],?_,?_,?_⟩
   ·rw[List.map_append,← y1]
    have h1:=qb0 e hk i hi
    show _=_++[qaG e i]
    rw[h1,ql0]
   ·rw[List.flatMap_append,List.flatMap_cons,List.flatMap_nil,List.append_nil,hki]
    refine List.perm_append_comm.trans ?_
    rw[List.cons_append,List.nil_append]
    exact List.Perm.cons _ (y2.trans List.perm_append_comm)
   ·intro x hx
    rcases List.mem_append.1 hx with hx | hx
    ·have:=y3 x hx;omega
    ·have:=List.mem_singleton.1 hx;omega
theorem qwd (e:List CExpr) (h:TreeL e):(ql0 (qbD e)).Perm ((List.range e.length).map (qaG e)):=by
 have hpos:=h.pos
 obtain⟨X,x1,x2,x3⟩:=qyh e h.ahead (e.length-1) (by omega)
 have hperm:X.Perm (List.range e.length):=by
  rw[List.perm_iff_count]
  intro j
  by_cases hj:j<e.length
  ·exact (qgl (qbm e) (qiK h) (e.length-1) e.length X (List.range e.length) x2 (qeN e h) (fun x hx=>by have:=x3 x hx;omega) (fun y hy=>List.mem_range.1 hy) (e.length-j) j (by omega)).1
  ·rw[List.count_eq_zero.2 (fun hm=>by have:=x3 j hm;omega),List.count_eq_zero.2 (fun hm=>by have:=List.mem_range.1 hm;omega)]
 rw[qdJ,x1]
 exact hperm.map _
theorem qsf {e:List CExpr} (h:TreeL e) (n:Nat) (hn:n<e.length):qaG e n∈ql0 (qbD e) :=
 (qwd e h).mem_iff.2 (List.mem_map_of_mem (List.mem_range.2 hn))
mutual
theorem qsg:∀ (t s:CTree),s∈ql0 t→qaJ s≤qaJ t∧hgt s≤hgt t∧(qbg s).Sublist (qbg t)
 | .mk op n binds kids alts,s,h => by
   rw[ql0] at h
   rcases List.mem_append.1 h with h | h
   ·obtain⟨a,b,c⟩:=qpR kids s h
    refine⟨by rw[qaJ];omega,by rw[hgt];omega,?_⟩
    rw[qbg]
    exact c.trans (List.sublist_append_left _ _)
   ·rw[List.mem_singleton.1 h]
    exact⟨Nat.le_refl _,Nat.le_refl _,List.Sublist.refl _⟩
theorem qpR:∀ (ks:List CTree) (s:CTree),s∈qeg ks→qaJ s≤qaF ks∧hgt s≤qcS ks∧(qbg s).Sublist (qaY ks)
 | [],s,h=>by rw[qeg] at h;cases h
 | k :: ks,s,h => by
   rw[qeg] at h
   rw[qaF,qcS,qaY]
   rcases List.mem_append.1 h with h | h
   ·obtain⟨a,b,c⟩:=qsg k s h
    exact⟨by omega,by omega,c.trans (List.sublist_append_left _ _)⟩
   ·obtain⟨a,b,c⟩:=qpR ks s h
    exact⟨by omega,by omega,c.trans (List.sublist_append_right _ _)⟩
end
theorem qpP {α β:Type} (f:α→List β) {l m:List α} (h:l.Sublist m):(l.flatMap f).Sublist (m.flatMap f):=by
 induction h with
 | slnil=>exact List.Sublist.refl _
 | cons a _ ih=>rw[List.flatMap_cons];exact ih.trans (List.sublist_append_right _ _)
 | cons_cons a _ ih=>rw[List.flatMap_cons,List.flatMap_cons];exact (List.Sublist.refl _).append ih
def qbn (l:Lab):List Int:=qaq l.op l.binds l.alts
structure TOk (t:CTree):Prop where
 size:qaJ t≤4096
 deep:hgt t≤400
 lab:∀ l∈qbg t,qbL false l=0
 once:((qbg t).flatMap qbn).Nodup
theorem qoe {t s:CTree} (h:TOk t) (hs:s∈ql0 t):TOk s:=by
 obtain⟨a,b,c⟩:=qsg t s hs
 exact⟨by have:=h.size;omega,by have:=h.deep;omega,fun l hl=>h.lab l (c.subset hl),h.once.sublist (qpP _ c)⟩
theorem qes (e l:List CExpr):l.flatMap qbB=(l.map (qhb e)).flatMap qbn:=by
 rw[List.flatMap_map]
 rfl
theorem qpV {e:List CExpr} (h:qaD e=0):TOk (qbD e):=by
 obtain⟨a,b,c,d,f,g⟩:=qa8 h
 have hp:=qdy e a
 refine⟨by rw[qhe e a];exact b,c,fun l hl=>?_,?_⟩
 ·obtain⟨x,hx,rfl⟩:=List.mem_map.1 (hp.mem_iff.1 hl)
  exact d x hx
 ·rw[qes e] at f
  exact ((hp.flatMap_right _).nodup_iff).2 f
theorem qgi {t:CTree} (h:TOk t):qaD (qau t)=if qda t=[] then 0 else 6:=by
 have hT:=qgH t
 have hg:=qb5 t
 have hp:=qdy _ hT
 rw[hg] at hp
 have h1:qeU (qau t)=0:=(qgG _).2 ⟨hT,by unfold qau;rw[qcv];exact h.size,by rw[hg];exact h.deep⟩
 have h2:qb1 ((qau t).map fun x=>qbL false (qhb (qau t) x))=0:=(qd6 _ _).2 fun x hx=>h.lab _ (hp.mem_iff.2 (List.mem_map_of_mem hx))
 have h3:((qau t).flatMap qbB).Nodup:=by
  rw[qes (qau t)]
  exact ((hp.flatMap_right _).nodup_iff).1 h.once
 unfold qaD qkz
 rw[if_neg (fun hx=>hx h1),if_neg (fun hx=>hx h2),qlT,hg]
 simp only[h3,decide_true,Bool.not_true,Bool.false_eq_true,if_false]
 cases qda t with
 | nil=>simp
 | cons n l=>simp[qsR]
theorem qgE {e:List CExpr} (hz:qaD e=0) (hf:∀ x∈e,NodeFit x) (n:Nat) (hn:n<e.length):TFit (qaG e n):=by
 obtain⟨hT,hn2,hh,hlab,_⟩:=qa8 hz
 exact qq8 e hT.ahead hf (qrS hT hn2 hlab) n hn
section
end
section
end
mutual
def qbx (v:Int):CTree→Prop
 | .mk op n binds kids alts=>(op=0∧n=v)∨qeG v op binds alts kids 0
def qeG (v op:Int) (binds:List Int) (alts:List CAlt):List CTree→Nat→Prop
 | [],_=>False
 | k::ks,i=>(qbx v k∧v∉qbz op binds alts i)∨qeG v op binds alts ks (i+1)
end
theorem qbV (v op:Int) (binds:List Int) (alts:List CAlt):∀ (ks:List CTree) (i:Nat),qeG v op binds alts ks i↔∃ j,∃ hj:j<ks.length,qbx v ks[j]∧v∉qbz op binds alts (i+j)
 | [],i=>by rw[qeG];simp
 | k :: ks,i => by
   rw[qeG,qbV v op binds alts ks (i+1)]
   constructor
   ·rintro (h | ⟨j,hj,h⟩)
    ·exact⟨0,by simp,by simpa using h⟩
    ·exact⟨j+1,by simpa using hj,by simpa[Nat.add_assoc,Nat.add_comm 1 j] using h⟩
   ·rintro ⟨j,hj,h⟩
    cases j with
    | zero=>exact .inl (by simpa using h)
    | succ j=>exact .inr ⟨j,by simpa using hj,by simpa[Nat.add_assoc,Nat.add_comm 1 j] using h⟩
theorem qiW {β:Type} (v:Int):∀ m:IM β,(qaW v m).isSome=true↔v∈qcu m
 | []=>by simp[qaW,qcu]
 | p :: m => by
   unfold qaW qcu
   rw[List.map_cons,List.mem_cons]
   by_cases h:v=p.1
   ·simp[h]
   ·rw[if_neg h]
    have:=qiW v m
    unfold qcu at this
    rw[this]
    simp[h]
theorem qxC {β:Type} (v w:Int) (b:β) (m:IM β):v∈qcu (qlv w b m)↔v=w∨v∈qcu m:=by
 rw[← qiW,← qiW,qcd]
 by_cases h:v=w<;>simp[h]
def NN (b:IM Int):Prop:=∀ u,0≤qgf u b
theorem NN.up {b:IM Int} (h:NN b) (l:List Int):NN (l.foldl (qhp 1) b):=by
 intro u
 rw[qcH]
 have:=h u
 unfold qBm
 omega
theorem qA8 {b:IM Int} (h:NN b) (l:List Int) (v:Int):qgf v (l.foldl (qhp 1) b)=0↔qgf v b=0∧v∉l:=by
 rw[qcH]
 have h1:=h v
 have h2:(l.count v:Int)=0↔v∉l:=by
  rw[← List.count_eq_zero (a:=v)]
  omega
 unfold qBm
 constructor
 ·intro hx
  exact⟨by omega,h2.1 (by omega)⟩
 ·rintro ⟨a,c⟩
  have:=h2.2 c
  omega
mutual
theorem qrE (v:Int):∀ (t:CTree) (s:FS),NN s.1→(v∈qcu (qd9 t s).2↔v∈qcu s.2∨(qbx v t∧qgf v s.1=0))
 | .mk op n binds kids alts,s,hn => by
   rw[qd9,qbx]
   have h1:(qdk op n s).1=s.1:=by unfold qdk;split<;>rfl
   rw[qoI v op binds alts kids 0 _ (by rw[h1];exact hn),h1]
   unfold qdk
   split
   ·rename_i h
    rw[qxC]
    constructor
    ·rintro ((rfl | a) | a)
     ·exact .inr ⟨.inl ⟨h.1,rfl⟩,h.2⟩
     ·exact .inl a
     ·exact .inr ⟨.inr a.1,a.2⟩
    ·rintro (a | ⟨⟨_,rfl⟩ | a,c⟩)
     ·exact .inl (.inr a)
     ·exact .inl (.inl rfl)
     ·exact .inr ⟨a,c⟩
   ·rename_i h
    constructor
    ·rintro (a | a)
     ·exact .inl a
     ·exact .inr ⟨.inr a.1,a.2⟩
    ·rintro (a | ⟨⟨h0,rfl⟩ | a,c⟩)
     ·exact .inl a
     ·exact absurd ⟨h0,c⟩ h
     ·exact .inr ⟨a,c⟩
theorem qoI (v op:Int) (binds:List Int) (alts:List CAlt):∀ (ks:List CTree) (k:Nat) (s:FS),NN s.1→(v∈qcu (qd0 op binds alts ks k s).2↔v∈qcu s.2∨(qeG v op binds alts ks k∧qgf v s.1=0))
 | [],k,s,hn=>by rw[qd0,qeG];simp
 | kid :: ks,k,s,hn => by
   rw[qd0,qeG]
   have hup:=hn.up (qbz op binds alts k)
   have hb:∀ u,qgf u ((qbz op binds alts k).foldl (qhp (-1)) (qd9 kid ((qbz op binds alts k).foldl (qhp 1) s.1,s.2)).1)=qgf u s.1:=by
    intro u
    rw[qcH,qiq,qcH]
    omega
   rw[qoI v op binds alts ks (k+1) _ (fun u=>by rw[hb u];exact hn u)]
   dsimp only
   rw[hb v,qrE v kid _ hup]
   dsimp only
   rw[qA8 hn]
   constructor
   ·rintro ((a | ⟨a,c,d⟩) | ⟨a,c⟩)
    ·exact .inl a
    ·exact .inr ⟨.inl ⟨a,d⟩,c⟩
    ·exact .inr ⟨.inr a,c⟩
   ·rintro (a | ⟨⟨a,d⟩ | a,c⟩)
    ·exact .inl (.inl a)
    ·exact .inl (.inr ⟨a,c,d⟩)
    ·exact .inr ⟨a,c⟩
end
theorem qe5 (t:CTree) (v:Int):v∈qda t↔qbx v t:=by
 unfold qda
 rw[(qci _).mem_iff,qrE v t ([],[]) (fun u=>by simp[qgf,qaW])]
 simp[qcu,qgf,qaW]
end Go.Abs
