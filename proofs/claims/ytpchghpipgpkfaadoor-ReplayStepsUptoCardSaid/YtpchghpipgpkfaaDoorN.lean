/-
  PARTS OF A PROOF, joined: an abstract machine for quiet code, its evaluation, and what the seat's functions answer on it. Conditions: none.
-/
import Derived.Test.YtpchghpipgpkfaaDoorCL
set_option linter.unusedVariables false
set_option linter.unusedSimpArgs false
set_option maxRecDepth 100000
set_option maxHeartbeats 4000000
namespace Go.Abs
def qbp (e:List CExpr) (j:Nat):CTree:=(qdr e).getD j .none
theorem qik:∀ (e:List CExpr) (i j:Nat),i≤e.length→j<i→(qdr (e.take i)).getD j .none=qbp e j:=by
 intro e i j hi hj
 have key:∀ d i,i+d=e.length→j<i→(qdr (e.take i)).getD j .none=qbp e j:=by
  intro d
  induction d with
  | zero=>intro i h1 h2;rw[Nat.add_zero] at h1;rw[h1,List.take_length];rfl
  | succ d ih =>
    intro i h1 h2
    rw[← ih (i+1) (by omega) (by omega),qij e i (by omega)]
    unfold qdC
    have:=qil e i (by omega)
    simp[List.getD_eq_getElem?_getD,List.getElem?_append_left (show j<(qdr (e.take i)).length by omega)]
 exact key (e.length-i) i (by omega) hj
theorem qcR (e:List CExpr) (hk:qe5 e) (i:Nat) (hi:i<e.length):qbp e i=.mk e[i].op e[i].n e[i].binds (e[i].kids.map fun k=>qbp e k.toNat) e[i].alts:=by
 rw[← qik e (i+1) i (by omega) (by omega),qij e i hi]
 unfold qdC
 have hl:=qil e i (by omega)
 rw[List.getD_eq_getElem?_getD,List.getElem?_append_right (by omega),hl,Nat.sub_self]
 show CTree.mk _ _ _ _ _=_
 congr 1
 refine List.map_congr_left fun k hkm=>?_
 obtain⟨k0,k1⟩:=hk i hi k hkm
 exact qik e i k.toNat (by omega) (by omega)
theorem qhm (e:List CExpr):qa0 e=qbp e (e.length-1):=rfl
def qxS (l:List Int) (b:Int):Int:=l.foldl max b
theorem qnl:∀ (ks:List CTree) (b:Nat),qxS (ks.map fun k=>(hgt k:Int)) b=(max b (qdv ks):Nat)
 | [],b=>by simp[qxS,qdv]
 | k :: ks,b => by
   unfold qxS
   rw[List.map_cons,List.foldl_cons,qdv]
   have:=qnl ks (max b (hgt k))
   unfold qxS at this
   rw[show max (b:Int) (hgt k:Int)=((max b (hgt k):Nat):Int) by omega,this]
   omega
theorem qhl (l:List Int) (i j:Nat) (v:Int) (hi:i<l.length):(l.set i v).getD j 0=if j=i then v else l.getD j 0:=by
 rw[List.getD_eq_getElem?_getD,List.getElem?_set]
 by_cases h:i=j
 ·subst h
  simp[hi]
 ·rw[if_neg h,if_neg (fun e=>h e.symm),List.getD_eq_getElem?_getD]
theorem qpN (i:Nat):∀ (ks:List Int) (j:Nat) (dp:DP),i<dp.1.length→(∀ k∈ks,0≤k∧k<i)→(∀ k∈ks,k.toNat<dp.2.length) →
  ∃ dp',qbw (qqL i) ks j dp=.ok dp'∧dp'.1.length=dp.1.length∧dp'.2.length=dp.2.length ∧
   (∀ m,dp'.1.getD m 0=if m=i then qxS (ks.map fun k=>dp.1.getD k.toNat 0) (dp.1.getD i 0) else dp.1.getD m 0)∧(∀ m:Nat,dp'.2.getD m 0=dp.2.getD m 0+(ks.count (m:Int):Nat))
 | [],j,dp,hi,hk,hk2=>⟨dp,rfl,rfl,rfl,fun m=>by by_cases h:m=i<;>simp[h,qxS],fun m=>by simp⟩
 | k :: ks,j,dp,hi,hk,hk2 => by
   obtain⟨k0,k1⟩:=hk k (by simp)
   have k2:=hk2 k (by simp)
   rw[qbw]
   have hs:qqL i j dp k=.ok (qcz i k dp):=if_neg (by omega)
   rw[hs]
   dsimp only
   obtain⟨dp',h1,h2,h3,h4,h5⟩:=qpN i ks (j+1) (qcz i k dp) (by simpa[qcz] using hi) (fun x hx=>hk x (by simp[hx])) (fun x hx=>by simpa[qcz] using hk2 x (by simp[hx]))
   refine⟨dp',h1,by rw[h2];simp[qcz],by rw[h3];simp[qcz],fun m=>?_,fun m=>?_⟩
   ·rw[h4]
    by_cases hm:m=i
    ·rw[if_pos hm,if_pos hm]
     unfold qcz
     dsimp only
     rw[qhl _ _ _ _ hi,if_pos rfl]
     unfold qxS
     rw[List.map_cons,List.foldl_cons]
     congr 1
     refine List.map_congr_left fun x hx=>?_
     have:=hk x (by simp[hx])
     rw[qhl _ _ _ _ hi,if_neg (by omega)]
    ·rw[if_neg hm,if_neg hm]
     unfold qcz
     dsimp only
     rw[qhl _ _ _ _ hi,if_neg hm]
   ·rw[h5,List.count_cons]
    unfold qcz
    dsimp only
    rw[qhl _ _ _ _ k2]
    by_cases hm:m=k.toNat
    ·rw[if_pos hm,hm]
     have:(k==((k.toNat:Nat):Int))=true:=by simpa using by omega
     rw[if_pos this]
     omega
    ·rw[if_neg hm]
     have:¬ (k==(m:Int))=true:=by simpa using by omega
     rw[if_neg this]
     omega
theorem qpM (i:Nat):∀ (ks:List Int) (j:Nat) (dp:DP),(∃ k∈ks,¬ (0≤k∧k<i))→qbw (qqL i) ks j dp=.error ()
 | [],j,dp,h=>by obtain⟨k,hk,_⟩:=h;cases hk
 | k :: ks,j,dp,h => by
   rw[qbw]
   unfold qqL
   by_cases hb:k<0∨(i:Int)≤k
   ·rw[if_pos hb]
   ·rw[if_neg hb]
    dsimp only
    obtain⟨x,hx,hn⟩:=h
    rcases List.mem_cons.1 hx with rfl | hx
    ·omega
    ·have:=qpM i ks (j+1) (qcz i k dp) ⟨x,hx,hn⟩
     unfold qqL at this
     exact this
structure RunTree (e:List CExpr) (i:Nat) (dp:DP):Prop where
 l1:dp.1.length=e.length
 l2:dp.2.length=e.length
 deep:∀ m,m<e.length→dp.1.getD m 0=if m<i then (hgt (qbp e m):Int) else 0
 par:∀ m:Nat,dp.2.getD m 0=(((e.take i).flatMap (·.kids)).count (m:Int):Nat)
theorem qvu (e:List CExpr) (hk:qe5 e) (i:Nat) (hi:i<e.length) (dp:DP) (h:RunTree e i dp):∃ dp',qjX i dp e[i]=.ok dp'∧RunTree e (i+1) dp':=by
 obtain⟨d,h1,h2,h3,h4,h5⟩:=qpN i e[i].kids 0 dp (by rw[h.l1];exact hi) (fun k hkm=>hk i hi k hkm) (fun k hkm=>by have:=hk i hi k hkm;rw[h.l2];omega)
 refine⟨_,by unfold qjX;rw[h1],⟨by simp[h2,h.l1],by rw[h3,h.l2],fun m hm=>?_,fun m=>?_⟩⟩
 ·dsimp only
  rw[qhl _ _ _ _ (by rw[h2,h.l1];exact hi),h4,h4]
  by_cases hmi:m=i
  ·rw[if_pos hmi,if_pos rfl,if_pos (by omega),hmi,qcR e hk i hi,hgt]
   have hd:dp.1.getD i 0=((0:Nat):Int):=by rw[h.deep i hi,if_neg (by omega)];rfl
   rw[hd]
   have hm:(e[i].kids.map fun k=>dp.1.getD k.toNat 0)=((e[i].kids.map fun k=>qbp e k.toNat).map fun k=>(hgt k:Int)):=by
    rw[List.map_map]
    refine List.map_congr_left fun k hkm=>?_
    obtain⟨k0,k1⟩:=hk i hi k hkm
    rw[h.deep k.toNat (by omega),if_pos (by omega)]
    rfl
   rw[hm,qnl]
   omega
  ·rw[if_neg hmi,if_neg hmi,h.deep m hm]
   by_cases hlt:m<i
   ·rw[if_pos hlt,if_pos (by omega)]
   ·rw[if_neg hlt,if_neg (by omega)]
 ·dsimp only
  rw[h5,h.par,List.take_succ_eq_append_getElem hi,List.flatMap_append,List.count_append]
  simp
theorem qx7 (e:List CExpr) (i:Nat) (hi:i<e.length) (dp:DP) (h:∃ k∈e[i].kids,¬ (0≤k∧k<i)):qjX i dp e[i]=.error ():=by
 unfold qjX
 rw[qpM i e[i].kids 0 dp h]
theorem qvv (e:List CExpr):RunTree e 0 (List.replicate e.length 0,List.replicate e.length 0):=by
 refine⟨by simp,by simp,fun m hm=>?_,fun m=>?_⟩
 ·rw[if_neg (by omega)]
  simp[List.getD_eq_getElem?_getD,List.getElem?_replicate]
  split<;>rfl
 ·simp[List.getD_eq_getElem?_getD,List.getElem?_replicate]
  split<;>rfl
theorem qyX (e:List CExpr) (hk:qe5 e):∃ dp,qh2 e=.ok dp∧RunTree e e.length dp:=by
 have key:∀ d i dp,i+d=e.length→RunTree e i dp→∃ dp',qbw qjX (e.drop i) i dp=.ok dp'∧RunTree e e.length dp':=by
  intro d
  induction d with
  | zero=>intro i dp h1 h2;rw[Nat.add_zero] at h1;subst h1;rw[List.drop_length];exact⟨dp,rfl,h2⟩
  | succ d ih =>
    intro i dp h1 h2
    have hi:i<e.length:=by omega
    obtain⟨dp',h3,h4⟩:=qvu e hk i hi dp h2
    rw[List.drop_eq_getElem_cons hi,qbw,h3]
    exact ih (i+1) dp' (by omega) h4
 have:=key e.length 0 _ (by omega) (qvv e)
 rwa [List.drop_zero] at this
theorem qx6 (e:List CExpr) (hk:¬ qe5 e):qh2 e=.error ():=by
 have key:∀ d i dp,i+d=e.length→(∃ j,∃ hj:j<e.length,i≤j∧∃ k∈e[j].kids,¬ (0≤k∧k<j))→qbw qjX (e.drop i) i dp=.error ():=by
  intro d
  induction d with
  | zero=>intro i dp h1 h2;obtain⟨j,hj,h3,_⟩:=h2;omega
  | succ d ih =>
    intro i dp h1 h2
    have hi:i<e.length:=by omega
    rw[List.drop_eq_getElem_cons hi,qbw]
    obtain⟨j,hj,h3,h4⟩:=h2
    by_cases hij:i=j
    ·subst hij
     rw[qx7 e i hi dp h4]
    ·cases hq:qjX i dp e[i] with
     | error u=>rfl
     | ok dp'=>exact ih (i+1) dp' (by omega) ⟨j,hj,by omega,h4⟩
 have:=key e.length 0 (List.replicate e.length 0,List.replicate e.length 0) (by omega) (by
  refine Classical.byContradiction fun hn=>hk fun i hi k hkm=>?_
  refine Classical.byContradiction fun hb=>hn ⟨i,hi,by omega,k,hkm,hb⟩)
 rwa [List.drop_zero] at this
theorem qg8 {α:Type} (p:Nat→α→Bool):∀ (xs:List α) (k:Nat),(qaO (fun i a=>if p i a=true then some () else none) xs k).isSome=true↔∃ i,∃ hi:i<xs.length,p (k+i) xs[i]=true
 | [],k=>by simp[qaO]
 | x :: xs,k => by
   rw[qaO]
   cases hp:p k x with
   | true=>simp only[if_true,Option.isSome_some,true_iff];exact⟨0,by simp,by simpa using hp⟩
   | false =>
     simp only[Bool.false_eq_true,if_false]
     rw[qg8 p xs (k+1)]
     constructor
     ·rintro ⟨i,hi,h⟩
      exact⟨i+1,by simp;omega,by simpa[show k+(i+1)=k+1+i by omega] using h⟩
     ·rintro ⟨i,hi,h⟩
      cases i with
      | zero=>simp[hp] at h
      | succ i=>exact⟨i,by simpa using hi,by simpa[show k+(i+1)=k+1+i by omega] using h⟩
structure TreeL (e:List CExpr):Prop where
 pos:0<e.length
 ahead:qe5 e
 once:∀ m:Nat,m+1<e.length→(e.flatMap (·.kids)).count (m:Int)=1
theorem qfE (e:List CExpr):qeZ e=0↔TreeL e∧e.length≤4096∧hgt (qa0 e)≤400:=by
 unfold qeZ
 by_cases h1:(4096:Int)<e.length
 ·rw[if_pos h1]
  refine⟨fun h=>absurd h (by decide),fun h=>?_⟩
  have:=h.2.1
  omega
 ·rw[if_neg h1]
  by_cases h2:e.length=0
  ·rw[if_pos h2]
   refine⟨fun h=>absurd h (by decide),fun h=>?_⟩
   have:=h.1.pos
   omega
  ·rw[if_neg h2]
   by_cases hk:qe5 e
   ·obtain⟨dp,h3,h4⟩:=qyX e hk
    rw[h3]
    dsimp only
    have hdeep:=h4.deep (e.length-1) (by omega)
    rw[if_pos (by omega)] at hdeep
    have hpar:=h4.par
    rw[List.take_length] at hpar
    have hany:(qaO (fun i p=>if qe3 e.length i p=true then some () else none) dp.2 0).isSome=true↔¬ ∀ m:Nat,m+1<e.length→(e.flatMap (·.kids)).count (m:Int)=1:=by
     rw[qg8]
     constructor
     ·rintro ⟨i,hi,hb⟩ hall
      have hp:dp.2[i]=((e.flatMap (·.kids)).count (i:Int):Nat):=by
       have:=hpar i
       rw[List.getD_eq_getElem?_getD,List.getElem?_eq_getElem hi] at this
       exact this
      unfold qe3 at hb
      rw[Nat.zero_add,hp] at hb
      by_cases hlt:i+1<e.length
      ·rw[hall i hlt] at hb
       have:(i:Int)<(e.length:Int)-1:=by omega
       simp[this] at hb
      ·have hc:(e.flatMap (·.kids)).count (i:Int)=0:=by
        rw[List.count_eq_zero]
        intro hm
        obtain⟨x,hx,hkx⟩:=List.mem_flatMap.1 hm
        obtain⟨j,hj,rfl⟩:=List.getElem_of_mem hx
        have:=hk j hj _ hkx
        omega
       rw[hc] at hb
       have:¬ (i:Int)<(e.length:Int)-1:=by omega
       simp[this] at hb
     ·intro hn
      refine Classical.byContradiction fun hb=>hn fun m hm=>?_
      have hml:m<dp.2.length:=by rw[h4.l2];omega
      have hp:dp.2[m]=((e.flatMap (·.kids)).count (m:Int):Nat):=by
       have:=hpar m
       rw[List.getD_eq_getElem?_getD,List.getElem?_eq_getElem hml] at this
       exact this
      have h5:¬ qe3 e.length (0+m) dp.2[m]=true:=fun h=>hb ⟨m,hml,h⟩
      unfold qe3 at h5
      rw[Nat.zero_add,hp] at h5
      have:(m:Int)<(e.length:Int)-1:=by omega
      simp[this] at h5
      omega
    by_cases hs:(qaO (fun i p=>if qe3 e.length i p=true then some () else none) dp.2 0).isSome=true
    ·rw[if_pos hs]
     exact⟨fun h=>absurd h (by decide),fun h=>absurd h.1.once (hany.1 hs)⟩
    ·rw[if_neg hs,hdeep]
     have honce:=Classical.not_not.1 (fun h=>hs (hany.2 h))
     rw[qhm]
     by_cases hh:(400:Int)<(hgt (qbp e (e.length-1)):Int)
     ·rw[if_pos hh]
      exact⟨fun h=>absurd h (by decide),fun h=>by have:=h.2.2;omega⟩
     ·rw[if_neg hh]
      exact⟨fun _=>⟨⟨by omega,hk,honce⟩,by omega,by omega⟩,fun _=>rfl⟩
   ·rw[qx6 e hk]
    show (3:Int)=0↔_
    exact⟨fun h=>absurd h (by decide),fun h=>absurd h.1.ahead hk⟩
def qdn:CTree→Int
 | .mk op _ _ _ _=>op
mutual
def qcT:CTree→List Lab
 | .mk op n binds kids alts=>qdt kids++[⟨op,n,binds,kids.map qdn,alts⟩]
def qdt:List CTree→List Lab
 | []=>[]
 | k::ks=>qcT k++qdt ks
end
mutual
def qaP:CTree→Nat
 | .mk _ _ _ kids _=>qaB kids+1
def qaB:List CTree→Nat
 | []=>0
 | k::ks=>qaP k+qaB ks
end
theorem qdp (t:CTree):0<qaP t:=by cases t;rw[qaP];omega
mutual
theorem qno:∀ t:CTree,(qcT t).length=qaP t
 | .mk op n binds kids alts=>by rw[qcT,qaP,List.length_append,qle kids];rfl
theorem qle:∀ ks:List CTree,(qdt ks).length=qaB ks
 | []=>by rw[qdt,qaB];rfl
 | k::ks=>by rw[qdt,qaB,List.length_append,qno k,qle ks]
end
def qbo (e:List CExpr) (p:Nat):List Nat:=match e[p]? with | some x=>x.kids.map Int.toNat | none=>[]
def qqN (e:List CExpr) (p:Nat):Lab:=match e[p]? with | some x=>qgc e x | none=>⟨0,0,[],[],[]⟩
theorem qtl (e:List CExpr) (hk:qe5 e) (k:Int) (h0:0≤k) (h1:k<e.length):qdn (qbp e k.toNat)=qtV e k:=by
 have hi:k.toNat<e.length:=by omega
 rw[qcR e hk k.toNat hi]
 unfold qtV
 rw[List.getElem?_eq_getElem hi]
 rfl
theorem qfT {α β:Type} {f g:α→List β}:∀ {l:List α},(∀ x∈l,f x=g x)→l.flatMap f=l.flatMap g
 | [],_=>rfl
 | x::l,h=>by rw[List.flatMap_cons,List.flatMap_cons,h x (by simp),qfT fun y hy=>h y (by simp[hy])]
theorem qsM (e:List CExpr) (hk:qe5 e):∀ (i:Nat),i<e.length→∃ X:List Nat,qcT (qbp e i)=X.map (qqN e)∧X.Perm (i::X.flatMap (qbo e))∧∀ x∈X,x≤i:=by
 intro i
 induction i using Nat.strongRecOn with
 | ind i ih =>
   intro hi
   have key:∀ ks:List Int,(∀ k∈ks,0≤k∧k<i)→∃ Y:List Nat,qdt (ks.map fun k=>qbp e k.toNat)=Y.map (qqN e)∧Y.Perm (ks.map Int.toNat++Y.flatMap (qbo e))∧∀ y∈Y,y<i:=by
    intro ks
    induction ks with
    | nil=>intro _;exact⟨[],by rw[List.map_nil,qdt];rfl,.refl _,by simp⟩
    | cons k ks ihk =>
      intro h
      obtain⟨k0,k1⟩:=h k (by simp)
      obtain⟨Y,y1,y2,y3⟩:=ihk fun x hx=>h x (by simp[hx])
      obtain⟨X,x1,x2,x3⟩:=ih k.toNat (by omega) (by omega)
      refine⟨X++Y,by rw[List.map_cons,qdt,x1,y1,List.map_append],?_,fun z hz=>?_⟩
      ·rw[List.flatMap_append,List.map_cons,List.cons_append]
       refine (x2.append y2).trans ?_
       rw[List.cons_append]
       refine List.Perm.cons _ ?_
       rw[← List.append_assoc,← List.append_assoc]
       exact List.perm_append_comm.append_right _
      ·rcases List.mem_append.1 hz with hz | hz
       ·have:=x3 z hz;omega
       ·exact y3 z hz
   obtain⟨Y,y1,y2,y3⟩:=key e[i].kids (hk i hi)
   have hki:qbo e i=e[i].kids.map Int.toNat:=by unfold qbo;rw[List.getElem?_eq_getElem hi]
   have hli:qqN e i=qgc e e[i]:=by unfold qqN;rw[List.getElem?_eq_getElem hi]
   refine⟨Y++[i],?_,?_,?_⟩
   ·rw[qcR e hk i hi,qcT,y1,List.map_append]
    congr 1
    show [_]=[_]
    rw[hli]
    unfold qgc
    rw[List.map_map]
    congr 2
    refine List.map_congr_left fun k hkm=>?_
    obtain⟨k0,k1⟩:=hk i hi k hkm
    exact qtl e hk k k0 (by omega)
   ·rw[List.flatMap_append,List.flatMap_cons,List.flatMap_nil,List.append_nil,hki]
    refine List.perm_append_comm.trans ?_
    rw[List.cons_append,List.nil_append]
    exact List.Perm.cons _ (y2.trans List.perm_append_comm)
   ·intro x hx
    rcases List.mem_append.1 hx with hx | hx
    ·have:=y3 x hx;omega
    ·have:=List.mem_singleton.1 hx;omega
theorem qfi (kd:Nat→List Nat) (hk:∀ p,∀ j∈kd p,j<p) (r N:Nat) (X Y:List Nat) (hX:X.Perm (r::X.flatMap kd)) (hY:Y.Perm (r::Y.flatMap kd)) (bX:∀ x∈X,x<N) (bY:∀ y∈Y,y<N) :
  ∀ (d j:Nat),j+d=N→X.count j=Y.count j∧∀ i,j≤i→X.count i=Y.count i:=by
 have split:∀ (Z:List Nat) (j:Nat),(Z.flatMap kd).count j=((Z.filter fun p=>decide (j<p)).flatMap kd).count j:=by
  intro Z j
  induction Z with
  | nil=>rfl
  | cons z Z ih =>
    rw[List.flatMap_cons,List.count_append,ih]
    by_cases h:j<z
    ·rw[List.filter_cons_of_pos (by simpa using h),List.flatMap_cons,List.count_append]
    ·rw[List.filter_cons_of_neg (by simpa using h),List.count_eq_zero.2 (fun hm=>h (hk z j hm)),Nat.zero_add]
 intro d
 induction d with
 | zero =>
   intro j hj
   have h0:∀ i,j≤i→X.count i=Y.count i:=by
    intro i hi
    rw[List.count_eq_zero.2 (fun hm=>by have:=bX i hm;omega),List.count_eq_zero.2 (fun hm=>by have:=bY i hm;omega)]
   exact⟨h0 j (by omega),h0⟩
 | succ d ih =>
   intro j hj
   obtain⟨_,hup⟩:=ih (j+1) (by omega)
   have hj':X.count j=Y.count j:=by
    rw[hX.count_eq,hY.count_eq,List.count_cons,List.count_cons,split X j,split Y j]
    have hp:(X.filter fun p=>decide (j<p)).Perm (Y.filter fun p=>decide (j<p)):=by
     rw[List.perm_iff_count]
     intro i
     by_cases hi:j<i
     ·rw[List.count_filter (by simpa using hi),List.count_filter (by simpa using hi)]
      exact hup i (by omega)
     ·rw[List.count_eq_zero.2 (by simp[hi]),List.count_eq_zero.2 (by simp[hi])]
    rw[(hp.flatMap_right kd).count_eq]
   refine⟨hj',fun i hi=>?_⟩
   by_cases h:i=j
   ·rw[h];exact hj'
   ·exact hup i (by omega)
theorem qd4 (e:List CExpr) (h:TreeL e):(List.range e.length).Perm ((e.length-1)::(List.range e.length).flatMap (qbo e)):=by
 have hflat:(List.range e.length).flatMap (qbo e)=(e.flatMap (·.kids)).map Int.toNat:=by
  have:∀ l:List CExpr,(l.flatMap (·.kids)).map Int.toNat=l.flatMap fun x=>x.kids.map Int.toNat:=by
   intro l
   rw[List.map_flatMap]
  rw[this]
  have h2:e=(List.range e.length).map fun i=>(e[i]?).getD ⟨0,0,[],[],[]⟩:=by
   refine List.ext_getElem (by simp) fun i h1 h2=>?_
   simp[h1]
  conv=>rhs;rw[h2,List.flatMap_map]
  refine qfT fun i hi=>?_
  have hi:=List.mem_range.1 hi
  unfold qbo
  simp[hi]
 have hkm:∀ k∈e.flatMap (·.kids),0≤k∧k.toNat+1<e.length:=by
  intro k hk
  obtain⟨x,hx,hkx⟩:=List.mem_flatMap.1 hk
  obtain⟨j,hj,rfl⟩:=List.getElem_of_mem hx
  have:=h.ahead j hj k hkx
  omega
 rw[hflat,List.perm_iff_count]
 intro j
 have hc:((e.flatMap (·.kids)).map Int.toNat).count j=(e.flatMap (·.kids)).count (j:Int):=by
  generalize e.flatMap (·.kids)=l at hkm
  induction l with
  | nil=>rfl
  | cons k l ih =>
    rw[List.map_cons,List.count_cons,List.count_cons,ih fun x hx=>hkm x (by simp[hx])]
    have:=(hkm k (by simp)).1
    congr 1
    by_cases hkj:k=(j:Int)
    ·subst hkj;simp
    ·have:¬ k.toNat=j:=by omega
     simp[hkj,this]
 rw[List.count_cons,hc,List.count_range]
 by_cases h1:j+1<e.length
 ·rw[h.once j h1,if_pos (by omega)]
  have:¬ e.length-1=j:=by omega
  simp[this]
 ·have hz:(e.flatMap (·.kids)).count (j:Int)=0:=List.count_eq_zero.2 fun hm=>by have:=(hkm _ hm).2;omega
  rw[hz]
  have:=h.pos
  by_cases h2:e.length-1=j
  ·rw[if_pos (by omega)];simp[h2]
  ·rw[if_neg (by omega)];simp[h2]
theorem qgf (e:List CExpr) (h:TreeL e):(qcT (qa0 e)).Perm (e.map (qgc e)):=by
 have hpos:=h.pos
 obtain⟨X,x1,x2,x3⟩:=qsM e h.ahead (e.length-1) (by omega)
 have hkd:∀ p,∀ j∈qbo e p,j<p:=by
  intro p j hj
  unfold qbo at hj
  cases hq:e[p]? with
  | none=>rw[hq] at hj;cases hj
  | some x =>
    rw[hq] at hj
    obtain⟨k,hk,rfl⟩:=List.mem_map.1 hj
    obtain⟨hp,rfl⟩:=List.getElem?_eq_some_iff.1 hq
    have:=h.ahead p hp k hk
    omega
 have hperm:X.Perm (List.range e.length):=by
  rw[List.perm_iff_count]
  intro j
  by_cases hj:j<e.length
  ·exact (qfi (qbo e) hkd (e.length-1) e.length X (List.range e.length) x2 (qd4 e h) (fun x hx=>by have:=x3 x hx;omega) (fun y hy=>List.mem_range.1 hy) (e.length-j) j (by omega)).1
  ·rw[List.count_eq_zero.2 (fun hm=>by have:=x3 j hm;omega),List.count_eq_zero.2 (fun hm=>by have:=List.mem_range.1 hm;omega)]
 rw[qhm,x1]
 refine (hperm.map _).trans ?_
 have:(List.range e.length).map (qqN e)=e.map (qgc e):=by
  refine List.ext_getElem (by simp) fun i h1 h2=>?_
  simp only[List.getElem_map,List.getElem_range]
  unfold qqN
  rw[List.getElem?_eq_getElem (by simpa using h1)]
 rw[this]
theorem qgh (e:List CExpr) (h:TreeL e):qaP (qa0 e)=e.length:=by
 rw[← qno,(qgf e h).length_eq,List.length_map]
def qaM:List CTree→Nat→List Int
 | [],_=>[]
 | k::ks,b=>((b+qaP k-1:Nat):Int)::qaM ks (b+qaP k)
mutual
def qcq:CTree→Nat→List CExpr
 | .mk op n binds kids alts,b=>qaK kids b++[⟨op,n,binds,qaM kids b,alts⟩]
def qaK:List CTree→Nat→List CExpr
 | [],_=>[]
 | k::ks,b=>qcq k b++qaK ks (b+qaP k)
end
def qaU (t:CTree):List CExpr:=qcq t 0
mutual
def qob:CTree→List CTree
 | .mk op n binds kids alts=>qe9 kids++[.mk op n binds kids alts]
def qe9:List CTree→List CTree
 | []=>[]
 | k::ks=>qob k++qe9 ks
end
mutual
theorem qde:∀ (t:CTree) (b:Nat),(qcq t b).length=qaP t
 | .mk op n binds kids alts,b=>by rw[qcq,qaP,List.length_append,qdR kids b];rfl
theorem qdR:∀ (ks:List CTree) (b:Nat),(qaK ks b).length=qaB ks
 | [],b=>by rw[qaK,qaB];rfl
 | k::ks,b=>by rw[qaK,qaB,List.length_append,qde k,qdR ks]
end
mutual
theorem qmo:∀ t:CTree,(qob t).length=qaP t
 | .mk op n binds kids alts=>by rw[qob,qaP,List.length_append,qkg kids];rfl
theorem qkg:∀ ks:List CTree,(qe9 ks).length=qaB ks
 | []=>by rw[qe9,qaB];rfl
 | k::ks=>by rw[qe9,qaB,List.length_append,qmo k,qkg ks]
end
theorem qnP (t:CTree) (ts zs:List CTree):(ts++qob t++zs).getD (ts.length+qaP t-1) .none=t:=by
 cases t with
 | mk op n binds kids alts =>
   have h:=qkg kids
   rw[qob,qaP,List.getD_eq_getElem?_getD,List.append_assoc,List.getElem?_append_right (by omega),List.append_assoc,List.getElem?_append_right (by omega),List.cons_append,List.nil_append]
   rw[show ts.length+(qaB kids+1)-1-ts.length-(qe9 kids).length=0 by omega]
   rfl
theorem qlo:∀ (ks ts zs:List CTree),(qaM ks ts.length).map (fun k=>(ts++qe9 ks++zs).getD k.toNat .none)=ks
 | [],ts,zs=>rfl
 | k :: ks,ts,zs => by
   rw[qaM,List.map_cons,qe9]
   congr 1
   ·have:=qnP k ts (qe9 ks++zs)
    rw[← List.append_assoc] at this
    rw[← List.append_assoc]
    exact this
   ·have:=qlo ks (ts++qob k) zs
    rw[List.length_append,qmo] at this
    rw[← List.append_assoc]
    exact this
mutual
theorem qmX:∀ (t:CTree) (ts:List CTree),(qcq t ts.length).foldl qdC ts=ts++qob t
 | .mk op n binds kids alts,ts => by
   rw[qcq,List.foldl_append,qk3 kids ts,List.foldl_cons,List.foldl_nil,qob,← List.append_assoc]
   unfold qdC
   dsimp only
   have:=qlo kids ts []
   rw[List.append_nil] at this
   rw[this]
theorem qk3:∀ (ks:List CTree) (ts:List CTree),(qaK ks ts.length).foldl qdC ts=ts++qe9 ks
 | [],ts=>by rw[qaK,qe9,List.append_nil];rfl
 | k :: ks,ts => by
   rw[qaK,List.foldl_append,qmX k ts]
   have:=qk3 ks (ts++qob k)
   rw[List.length_append,qmo] at this
   rw[this,qe9,List.append_assoc]
end
theorem qgb (t:CTree):qa0 (qaU t)=t:=by
 unfold qa0 qdr qaU
 have h:=qmX t []
 rw[List.length_nil] at h
 rw[h,qde]
 have:=qnP t [] []
 rw[List.append_nil,List.length_nil,Nat.zero_add] at this
 exact this
def AheadB (b:Nat) (l:List CExpr):Prop:=∀ (i:Nat) (hi:i<l.length),∀ k∈l[i].kids,0≤k∧k<b+i
theorem AheadB.append {b:Nat} {l m:List CExpr} (h1:AheadB b l) (h2:AheadB (b+l.length) m):AheadB b (l++m):=by
 intro i hi k hk
 by_cases h:i<l.length
 ·rw[List.getElem_append_left h] at hk
  exact h1 i h k hk
 ·rw[List.getElem_append_right (by omega)] at hk
  rw[List.length_append] at hi
  have:=h2 (i-l.length) (by omega) k hk
  omega
theorem qkc:∀ (ks:List CTree) (b:Nat),∀ k∈qaM ks b,0≤k∧k<b+qaB ks
 | [],b,k,h=>by cases h
 | t :: ks,b,k,h => by
   have hp:=qdp t
   rw[qaM] at h
   rw[qaB]
   rcases List.mem_cons.1 h with rfl | h
   ·omega
   ·have:=qkc ks (b+qaP t) k h
    omega
mutual
theorem qkN:∀ (t:CTree) (b:Nat),AheadB b (qcq t b)
 | .mk op n binds kids alts,b => by
   rw[qcq]
   refine (qja kids b).append ?_
   intro i hi k hk
   rw[List.length_singleton] at hi
   have hi0:i=0:=by omega
   subst hi0
   have:=qkc kids b k hk
   rw[qdR]
   omega
theorem qja:∀ (ks:List CTree) (b:Nat),AheadB b (qaK ks b)
 | [],b=>by rw[qaK];intro i hi;simp at hi
 | k :: ks,b => by
   rw[qaK]
   refine (qkN k b).append ?_
   rw[qde]
   exact qja ks (b+qaP k)
end
theorem qoW (b n:Nat):List.range' b (n+1)=List.range' b n++[b+n]:=by
 rw[← List.range'_append_1 (s:=b) (m:=n) (n:=1)]
 rfl
mutual
theorem qm9:∀ (t:CTree) (b:Nat),(((b+qaP t-1:Nat):Int)::(qcq t b).flatMap (·.kids)).Perm ((List.range' b (qaP t)).map Int.ofNat)
 | .mk op n binds kids alts,b => by
   have h:=qk8 kids b
   rw[qcq,qaP,List.flatMap_append,List.flatMap_cons,List.flatMap_nil,List.append_nil,qoW,List.map_append]
   refine (List.Perm.cons _ (List.perm_append_comm.trans h)).trans ?_
   rw[show b+(qaB kids+1)-1=b+qaB kids by omega]
   exact List.perm_append_comm (l₁:=[_])
theorem qk8:∀ (ks:List CTree) (b:Nat),(qaM ks b++(qaK ks b).flatMap (·.kids)).Perm ((List.range' b (qaB ks)).map Int.ofNat)
 | [],b=>by rw[qaK,qaB,qaM];exact .refl _
 | k :: ks,b => by
   have h1:=qm9 k b
   have h2:=qk8 ks (b+qaP k)
   rw[qaM,qaK,qaB,List.flatMap_append,← List.range'_append_1,List.map_append]
   refine List.Perm.trans ?_ (h1.append h2)
   rw[List.cons_append,List.cons_append]
   refine List.Perm.cons _ ?_
   rw[← List.append_assoc,← List.append_assoc]
   exact List.perm_append_comm.append_right _
end
theorem qnU (t:CTree):TreeL (qaU t):=by
 refine⟨by unfold qaU;rw[qde];exact qdp t,?_,?_⟩
 ·intro i hi k hk
  have:=qkN t 0 i hi k hk
  omega
 ·intro m hm
  unfold qaU at hm ⊢
  rw[qde] at hm
  have h:=(qm9 t 0).count_eq (m:Int)
  rw[List.count_cons] at h
  have h1:((List.range' 0 (qaP t)).map Int.ofNat).count (m:Int)=1:=by
   have:∀ l:List Nat,(l.map Int.ofNat).count (m:Int)=l.count m:=by
    intro l
    induction l with
    | nil=>rfl
    | cons x l ih =>
      rw[List.map_cons,List.count_cons,List.count_cons,ih]
      congr 1
      by_cases hx:x=m
      ·subst hx;simp
      ·have h3:¬ (x:Int)=(m:Int):=by omega
       simp[hx,h3]
   rw[this,← List.range_eq_range',List.count_range,if_pos (by omega)]
  rw[h1] at h
  have h2:¬ (((0+qaP t-1:Nat):Int)==(m:Int))=true:=by simp;omega
  rw[if_neg h2] at h
  exact h
end Go.Abs
