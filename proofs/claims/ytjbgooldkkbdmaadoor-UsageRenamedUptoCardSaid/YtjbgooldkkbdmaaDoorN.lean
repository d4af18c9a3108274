/-
  PARTS OF A PROOF, joined: an abstract machine for quiet code, its evaluation, and what the seat's functions answer on it. Conditions: none.
-/
import Derived.Test.YtjbgooldkkbdmaaDoorCL
set_option linter.unusedVariables false
set_option linter.unusedSimpArgs false
set_option maxRecDepth 100000
set_option maxHeartbeats 4000000
namespace Go.Abs
def qd7 (e:List CExpr) (j:Nat):CTree:=(qdp e).getD j .none
theorem qhT:∀ (e:List CExpr) (i j:Nat),i≤e.length→j<i→(qdp (e.take i)).getD j .none=qd7 e j:=by
 intro e i j hi hj
 have key:∀ d i,i+d=e.length→j<i→(qdp (e.take i)).getD j .none=qd7 e j:=by
  intro d
  induction d with
  | zero=>intro i h1 h2;rw[Nat.add_zero] at h1;rw[h1,List.take_length];rfl
  | succ d ih =>
    intro i h1 h2
    rw[← ih (i+1) (by omega) (by omega),qhS e i (by omega)]
    unfold qdA
    have:=qhU e i (by omega)
    simp[List.getD_eq_getElem?_getD,List.getElem?_append_left (show j<(qdp (e.take i)).length by omega)]
 exact key (e.length-i) i (by omega) hj
theorem qfz (e:List CExpr) (hk:qh9 e) (i:Nat) (hi:i<e.length):qd7 e i=.mk e[i].op e[i].n e[i].binds (e[i].kids.map fun k=>qd7 e k.toNat) e[i].alts:=by
 rw[← qhT e (i+1) i (by omega) (by omega),qhS e i hi]
 unfold qdA
 have hl:=qhU e i (by omega)
 rw[List.getD_eq_getElem?_getD,List.getElem?_append_right (by omega),hl,Nat.sub_self]
 show CTree.mk _ _ _ _ _=_
 congr 1
 refine List.map_congr_left fun k hkm=>?_
 obtain⟨k0,k1⟩:=hk i hi k hkm
 exact qhT e i k.toNat (by omega) (by omega)
theorem qln (e:List CExpr):qbg e=qd7 e (e.length-1):=rfl
def qwv (l:List Int) (b:Int):Int:=l.foldl max b
theorem qmJ:∀ (ks:List CTree) (b:Nat),qwv (ks.map fun k=>(hgt k:Int)) b=(max b (qqw ks):Nat)
 | [],b=>by simp[qwv,qqw]
 | k :: ks,b => by
   unfold qwv
   rw[List.map_cons,List.foldl_cons,qqw]
   have:=qmJ ks (max b (hgt k))
   unfold qwv at this
   rw[show max (b:Int) (hgt k:Int)=((max b (hgt k):Nat):Int) by omega,this]
   omega
theorem qgY (l:List Int) (i j:Nat) (v:Int) (hi:i<l.length):(l.set i v).getD j 0=if j=i then v else l.getD j 0:=by
 rw[List.getD_eq_getElem?_getD,List.getElem?_set]
 by_cases h:i=j
 ·subst h
  simp[hi]
 ·rw[if_neg h,if_neg (fun e=>h e.symm),List.getD_eq_getElem?_getD]
theorem qo2 (i:Nat):∀ (ks:List Int) (j:Nat) (dp:DP),i<dp.1.length→(∀ k∈ks,0≤k∧k<i)→(∀ k∈ks,k.toNat<dp.2.length) →
  ∃ dp',qbq (qpZ i) ks j dp=.ok dp'∧dp'.1.length=dp.1.length∧dp'.2.length=dp.2.length ∧
   (∀ m,dp'.1.getD m 0=if m=i then qwv (ks.map fun k=>dp.1.getD k.toNat 0) (dp.1.getD i 0) else dp.1.getD m 0)∧(∀ m:Nat,dp'.2.getD m 0=dp.2.getD m 0+(ks.count (m:Int):Nat))
 | [],j,dp,hi,hk,hk2=>⟨dp,rfl,rfl,rfl,fun m=>by by_cases h:m=i<;>simp[h,qwv],fun m=>by simp⟩
 | k :: ks,j,dp,hi,hk,hk2 => by
   obtain⟨k0,k1⟩:=hk k (by simp)
   have k2:=hk2 k (by simp)
   rw[qbq]
   have hs:qpZ i j dp k=.ok (qcO i k dp):=if_neg (by omega)
   rw[hs]
   dsimp only
   obtain⟨dp',h1,h2,h3,h4,h5⟩:=qo2 i ks (j+1) (qcO i k dp) (by simpa[qcO] using hi) (fun x hx=>hk x (by simp[hx])) (fun x hx=>by simpa[qcO] using hk2 x (by simp[hx]))
   refine⟨dp',h1,by rw[h2];simp[qcO],by rw[h3];simp[qcO],fun m=>?_,fun m=>?_⟩
   ·rw[h4]
    by_cases hm:m=i
    ·rw[if_pos hm,if_pos hm]
     unfold qcO
     dsimp only
     rw[qgY _ _ _ _ hi,if_pos rfl]
     unfold qwv
     rw[List.map_cons,List.foldl_cons]
     congr 1
     refine List.map_congr_left fun x hx=>?_
     have:=hk x (by simp[hx])
     rw[qgY _ _ _ _ hi,if_neg (by omega)]
    ·rw[if_neg hm,if_neg hm]
     unfold qcO
     dsimp only
     rw[qgY _ _ _ _ hi,if_neg hm]
   ·rw[h5,List.count_cons]
    unfold qcO
    dsimp only
    rw[qgY _ _ _ _ k2]
    by_cases hm:m=k.toNat
    ·rw[if_pos hm,hm]
     have:(k==((k.toNat:Nat):Int))=true:=by simpa using by omega
     rw[if_pos this]
     omega
    ·rw[if_neg hm]
     have:¬ (k==(m:Int))=true:=by simpa using by omega
     rw[if_neg this]
     omega
theorem qo1 (i:Nat):∀ (ks:List Int) (j:Nat) (dp:DP),(∃ k∈ks,¬ (0≤k∧k<i))→qbq (qpZ i) ks j dp=.error ()
 | [],j,dp,h=>by obtain⟨k,hk,_⟩:=h;cases hk
 | k :: ks,j,dp,h => by
   rw[qbq]
   unfold qpZ
   by_cases hb:k<0∨(i:Int)≤k
   ·rw[if_pos hb]
   ·rw[if_neg hb]
    dsimp only
    obtain⟨x,hx,hn⟩:=h
    rcases List.mem_cons.1 hx with rfl | hx
    ·omega
    ·have:=qo1 i ks (j+1) (qcO i k dp) ⟨x,hx,hn⟩
     unfold qpZ at this
     exact this
structure RunTree (e:List CExpr) (i:Nat) (dp:DP):Prop where
 l1:dp.1.length=e.length
 l2:dp.2.length=e.length
 deep:∀ m,m<e.length→dp.1.getD m 0=if m<i then (hgt (qd7 e m):Int) else 0
 par:∀ m:Nat,dp.2.getD m 0=(((e.take i).flatMap (·.kids)).count (m:Int):Nat)
theorem quz (e:List CExpr) (hk:qh9 e) (i:Nat) (hi:i<e.length) (dp:DP) (h:RunTree e i dp):∃ dp',qjp i dp e[i]=.ok dp'∧RunTree e (i+1) dp':=by
 obtain⟨d,h1,h2,h3,h4,h5⟩:=qo2 i e[i].kids 0 dp (by rw[h.l1];exact hi) (fun k hkm=>hk i hi k hkm) (fun k hkm=>by have:=hk i hi k hkm;rw[h.l2];omega)
 refine⟨_,by unfold qjp;rw[h1],⟨by simp[h2,h.l1],by rw[h3,h.l2],fun m hm=>?_,fun m=>?_⟩⟩
 ·dsimp only
  rw[qgY _ _ _ _ (by rw[h2,h.l1];exact hi),h4,h4]
  by_cases hmi:m=i
  ·rw[if_pos hmi,if_pos rfl,if_pos (by omega),hmi,qfz e hk i hi,hgt]
   have hd:dp.1.getD i 0=((0:Nat):Int):=by rw[h.deep i hi,if_neg (by omega)];rfl
   rw[hd]
   have hm:(e[i].kids.map fun k=>dp.1.getD k.toNat 0)=((e[i].kids.map fun k=>qd7 e k.toNat).map fun k=>(hgt k:Int)):=by
    rw[List.map_map]
    refine List.map_congr_left fun k hkm=>?_
    obtain⟨k0,k1⟩:=hk i hi k hkm
    rw[h.deep k.toNat (by omega),if_pos (by omega)]
    rfl
   rw[hm,qmJ]
   omega
  ·rw[if_neg hmi,if_neg hmi,h.deep m hm]
   by_cases hlt:m<i
   ·rw[if_pos hlt,if_pos (by omega)]
   ·rw[if_neg hlt,if_neg (by omega)]
 ·dsimp only
  rw[h5,h.par,List.take_succ_eq_append_getElem hi,List.flatMap_append,List.count_append]
  simp
theorem qwD (e:List CExpr) (i:Nat) (hi:i<e.length) (dp:DP) (h:∃ k∈e[i].kids,¬ (0≤k∧k<i)):qjp i dp e[i]=.error ():=by
 unfold qjp
 rw[qo1 i e[i].kids 0 dp h]
theorem quA (e:List CExpr):RunTree e 0 (List.replicate e.length 0,List.replicate e.length 0):=by
 refine⟨by simp,by simp,fun m hm=>?_,fun m=>?_⟩
 ·rw[if_neg (by omega)]
  simp[List.getD_eq_getElem?_getD,List.getElem?_replicate]
  split<;>rfl
 ·simp[List.getD_eq_getElem?_getD,List.getElem?_replicate]
  split<;>rfl
theorem qxC (e:List CExpr) (hk:qh9 e):∃ dp,qhE e=.ok dp∧RunTree e e.length dp:=by
 have key:∀ d i dp,i+d=e.length→RunTree e i dp→∃ dp',qbq qjp (e.drop i) i dp=.ok dp'∧RunTree e e.length dp':=by
  intro d
  induction d with
  | zero=>intro i dp h1 h2;rw[Nat.add_zero] at h1;subst h1;rw[List.drop_length];exact⟨dp,rfl,h2⟩
  | succ d ih =>
    intro i dp h1 h2
    have hi:i<e.length:=by omega
    obtain⟨dp',h3,h4⟩:=quz e hk i hi dp h2
    rw[List.drop_eq_getElem_cons hi,qbq,h3]
    exact ih (i+1) dp' (by omega) h4
 have:=key e.length 0 _ (by omega) (quA e)
 rwa [List.drop_zero] at this
theorem qwC (e:List CExpr) (hk:¬ qh9 e):qhE e=.error ():=by
 have key:∀ d i dp,i+d=e.length→(∃ j,∃ hj:j<e.length,i≤j∧∃ k∈e[j].kids,¬ (0≤k∧k<j))→qbq qjp (e.drop i) i dp=.error ():=by
  intro d
  induction d with
  | zero=>intro i dp h1 h2;obtain⟨j,hj,h3,_⟩:=h2;omega
  | succ d ih =>
    intro i dp h1 h2
    have hi:i<e.length:=by omega
    rw[List.drop_eq_getElem_cons hi,qbq]
    obtain⟨j,hj,h3,h4⟩:=h2
    by_cases hij:i=j
    ·subst hij
     rw[qwD e i hi dp h4]
    ·cases hq:qjp i dp e[i] with
     | error u=>rfl
     | ok dp'=>exact ih (i+1) dp' (by omega) ⟨j,hj,by omega,h4⟩
 have:=key e.length 0 (List.replicate e.length 0,List.replicate e.length 0) (by omega) (by
  refine Classical.byContradiction fun hn=>hk fun i hi k hkm=>?_
  refine Classical.byContradiction fun hb=>hn ⟨i,hi,by omega,k,hkm,hb⟩)
 rwa [List.drop_zero] at this
theorem qlg {α:Type} (p:Nat→α→Bool):∀ (xs:List α) (k:Nat),(qaF (fun i a=>if p i a=true then some () else none) xs k).isSome=true↔∃ i,∃ hi:i<xs.length,p (k+i) xs[i]=true
 | [],k=>by simp[qaF]
 | x :: xs,k => by
   rw[qaF]
   cases hp:p k x with
   | true=>simp only[if_true,Option.isSome_some,true_iff];exact⟨0,by simp,by simpa using hp⟩
   | false =>
     simp only[Bool.false_eq_true,if_false]
     rw[qlg p xs (k+1)]
     constructor
     ·rintro ⟨i,hi,h⟩
      exact⟨i+1,by simp;omega,by simpa[show k+(i+1)=k+1+i by omega] using h⟩
     ·rintro ⟨i,hi,h⟩
      cases i with
      | zero=>simp[hp] at h
      | succ i=>exact⟨i,by simpa using hi,by simpa[show k+(i+1)=k+1+i by omega] using h⟩
structure TreeL (e:List CExpr):Prop where
 pos:0<e.length
 ahead:qh9 e
 once:∀ m:Nat,m+1<e.length→(e.flatMap (·.kids)).count (m:Int)=1
theorem qfA (e:List CExpr):qec e=0↔TreeL e∧e.length≤4096∧hgt (qbg e)≤400:=by
 unfold qec
 by_cases h1:(4096:Int)<e.length
 ·rw[if_pos h1]
  refine⟨fun h=>absurd h (by decide),fun h=>?_⟩
  have:=h.2.1
  omega
 ·rw[if_neg h1]
  by_cases h2:e.length=0
  ·rw[if_pos h2]
   refine⟨fun h=>absurd h (by decide),fun h=>?_⟩
   have:=h.1.pos
   omega
  ·rw[if_neg h2]
   by_cases hk:qh9 e
   ·obtain⟨dp,h3,h4⟩:=qxC e hk
    rw[h3]
    dsimp only
    have hdeep:=h4.deep (e.length-1) (by omega)
    rw[if_pos (by omega)] at hdeep
    have hpar:=h4.par
    rw[List.take_length] at hpar
    have hany:(qaF (fun i p=>if qe8 e.length i p=true then some () else none) dp.2 0).isSome=true↔¬ ∀ m:Nat,m+1<e.length→(e.flatMap (·.kids)).count (m:Int)=1:=by
     rw[qlg]
     constructor
     ·rintro ⟨i,hi,hb⟩ hall
      have hp:dp.2[i]=((e.flatMap (·.kids)).count (i:Int):Nat):=by
       have:=hpar i
       rw[List.getD_eq_getElem?_getD,List.getElem?_eq_getElem hi] at this
       exact this
      unfold qe8 at hb
      rw[Nat.zero_add,hp] at hb
      by_cases hlt:i+1<e.length
      ·rw[hall i hlt] at hb
       have:(i:Int)<(e.length:Int)-1:=by omega
       simp[this] at hb
      ·have hc:(e.flatMap (·.kids)).count (i:Int)=0:=by
        rw[List.count_eq_zero]
        intro hm
        obtain⟨x,hx,hkx⟩:=List.mem_flatMap.1 hm
        obtain⟨j,hj,rfl⟩:=List.getElem_of_mem hx
        have:=hk j hj _ hkx
        omega
       rw[hc] at hb
       have:¬ (i:Int)<(e.length:Int)-1:=by omega
       simp[this] at hb
     ·intro hn
      refine Classical.byContradiction fun hb=>hn fun m hm=>?_
      have hml:m<dp.2.length:=by rw[h4.l2];omega
      have hp:dp.2[m]=((e.flatMap (·.kids)).count (m:Int):Nat):=by
       have:=hpar m
       rw[List.getD_eq_getElem?_getD,List.getElem?_eq_getElem hml] at this
       exact this
      have h5:¬ qe8 e.length (0+m) dp.2[m]=true:=fun h=>hb ⟨m,hml,h⟩
      unfold qe8 at h5
      rw[Nat.zero_add,hp] at h5
      have:(m:Int)<(e.length:Int)-1:=by omega
      simp[this] at h5
      omega
    by_cases hs:(qaF (fun i p=>if qe8 e.length i p=true then some () else none) dp.2 0).isSome=true
    ·rw[if_pos hs]
     exact⟨fun h=>absurd h (by decide),fun h=>absurd h.1.once (hany.1 hs)⟩
    ·rw[if_neg hs,hdeep]
     have honce:=Classical.not_not.1 (fun h=>hs (hany.2 h))
     rw[qln]
     by_cases hh:(400:Int)<(hgt (qd7 e (e.length-1)):Int)
     ·rw[if_pos hh]
      exact⟨fun h=>absurd h (by decide),fun h=>by have:=h.2.2;omega⟩
     ·rw[if_neg hh]
      exact⟨fun _=>⟨⟨by omega,hk,honce⟩,by omega,by omega⟩,fun _=>rfl⟩
   ·rw[qwC e hk]
    show (3:Int)=0↔_
    exact⟨fun h=>absurd h (by decide),fun h=>absurd h.1.ahead hk⟩
def qgf:CTree→Int
 | .mk op _ _ _ _=>op
mutual
def qbx:CTree→List Lab
 | .mk op n binds kids alts=>qbi kids++[⟨op,n,binds,kids.map qgf,alts⟩]
def qbi:List CTree→List Lab
 | []=>[]
 | k::ks=>qbx k++qbi ks
end
mutual
def qbs:CTree→Nat
 | .mk _ _ _ kids _=>qaE kids+1
def qaE:List CTree→Nat
 | []=>0
 | k::ks=>qbs k+qaE ks
end
theorem qng (t:CTree):0<qbs t:=by cases t;rw[qbs];omega
mutual
theorem qg8:∀ t:CTree,(qbx t).length=qbs t
 | .mk op n binds kids alts=>by rw[qbx,qbs,List.length_append,qkF kids];rfl
theorem qkF:∀ ks:List CTree,(qbi ks).length=qaE ks
 | []=>by rw[qbi,qaE];rfl
 | k::ks=>by rw[qbi,qaE,List.length_append,qg8 k,qkF ks]
end
def qbw (e:List CExpr) (p:Nat):List Nat:=match e[p]? with | some x=>x.kids.map Int.toNat | none=>[]
def qp1 (e:List CExpr) (p:Nat):Lab:=match e[p]? with | some x=>qhd e x | none=>⟨0,0,[],[],[]⟩
theorem qst (e:List CExpr) (hk:qh9 e) (k:Int) (h0:0≤k) (h1:k<e.length):qgf (qd7 e k.toNat)=qs4 e k:=by
 have hi:k.toNat<e.length:=by omega
 rw[qfz e hk k.toNat hi]
 unfold qs4
 rw[List.getElem?_eq_getElem hi]
 rfl
theorem qfK {α β:Type} {f g:α→List β}:∀ {l:List α},(∀ x∈l,f x=g x)→l.flatMap f=l.flatMap g
 | [],_=>rfl
 | x::l,h=>by rw[List.flatMap_cons,List.flatMap_cons,h x (by simp),qfK fun y hy=>h y (by simp[hy])]
theorem qrS (e:List CExpr) (hk:qh9 e):∀ (i:Nat),i<e.length→∃ X:List Nat,qbx (qd7 e i)=X.map (qp1 e)∧X.Perm (i::X.flatMap (qbw e))∧∀ x∈X,x≤i:=by
 intro i
 induction i using Nat.strongRecOn with
 | ind i ih =>
   intro hi
   have key:∀ ks:List Int,(∀ k∈ks,0≤k∧k<i)→∃ Y:List Nat,qbi (ks.map fun k=>qd7 e k.toNat)=Y.map (qp1 e)∧Y.Perm (ks.map Int.toNat++Y.flatMap (qbw e))∧∀ y∈Y,y<i:=by
    intro ks
    induction ks with
    | nil=>intro _;exact⟨[],by rw[List.map_nil,qbi];rfl,.refl _,by simp⟩
    | cons k ks ihk =>
      intro h
      obtain⟨k0,k1⟩:=h k (by simp)
      obtain⟨Y,y1,y2,y3⟩:=ihk fun x hx=>h x (by simp[hx])
      obtain⟨X,x1,x2,x3⟩:=ih k.toNat (by omega) (by omega)
      refine⟨X++Y,by rw[List.map_cons,qbi,x1,y1,List.map_append],?_,fun z hz=>?_⟩
      ·rw[List.flatMap_append,List.map_cons,List.cons_append]
       refine (x2.append y2).trans ?_
       rw[List.cons_append]
       refine List.Perm.cons _ ?_
       rw[← List.append_assoc,← List.append_assoc]
       exact List.perm_append_comm.append_right _
      ·rcases List.mem_append.1 hz with hz | hz
       ·have:=x3 z hz;omega
       ·exact y3 z hz
   obtain⟨Y,y1,y2,y3⟩:=key e[i].kids (hk i hi)
   have hki:qbw e i=e[i].kids.map Int.toNat:=by unfold qbw;rw[List.getElem?_eq_getElem hi]
   have hli:qp1 e i=qhd e e[i]:=by unfold qp1;rw[List.getElem?_eq_getElem hi]
   refine⟨Y++[i],?_,?_,?_⟩
   ·rw[qfz e hk i hi,qbx,y1,List.map_append]
    congr 1
    show [_]=[_]
    rw[hli]
    unfold qhd
    rw[List.map_map]
    congr 2
    refine List.map_congr_left fun k hkm=>?_
    obtain⟨k0,k1⟩:=hk i hi k hkm
    exact qst e hk k k0 (by omega)
   ·rw[List.flatMap_append,List.flatMap_cons,List.flatMap_nil,List.append_nil,hki]
    refine List.perm_append_comm.trans ?_
    rw[List.cons_append,List.nil_append]
    exact List.Perm.cons _ (y2.trans List.perm_append_comm)
   ·intro x hx
    rcases List.mem_append.1 hx with hx | hx
    ·have:=y3 x hx;omega
    ·have:=List.mem_singleton.1 hx;omega
theorem qhL (kd:Nat→List Nat) (hk:∀ p,∀ j∈kd p,j<p) (r N:Nat) (X Y:List Nat) (hX:X.Perm (r::X.flatMap kd)) (hY:Y.Perm (r::Y.flatMap kd)) (bX:∀ x∈X,x<N) (bY:∀ y∈Y,y<N) :
  ∀ (d j:Nat),j+d=N→X.count j=Y.count j∧∀ i,j≤i→X.count i=Y.count i:=by
 have split:∀ (Z:List Nat) (j:Nat),(Z.flatMap kd).count j=((Z.filter fun p=>decide (j<p)).flatMap kd).count j:=by
  intro Z j
  induction Z with
  | nil=>rfl
  | cons z Z ih =>
    rw[List.flatMap_cons,List.count_append,ih]
    by_cases h:j<z
    ·rw[List.filter_cons_of_pos (by simpa using h),List.flatMap_cons,List.count_append]
    ·rw[List.filter_cons_of_neg (by simpa using h),List.count_eq_zero.2 (fun hm=>h (hk z j hm)),Nat.zero_add]
 intro d
 induction d with
 | zero =>
   intro j hj
   have h0:∀ i,j≤i→X.count i=Y.count i:=by
    intro i hi
    rw[List.count_eq_zero.2 (fun hm=>by have:=bX i hm;omega),List.count_eq_zero.2 (fun hm=>by have:=bY i hm;omega)]
   exact⟨h0 j (by omega),h0⟩
 | succ d ih =>
   intro j hj
   obtain⟨_,hup⟩:=ih (j+1) (by omega)
   have hj':X.count j=Y.count j:=by
    rw[hX.count_eq,hY.count_eq,List.count_cons,List.count_cons,split X j,split Y j]
    have hp:(X.filter fun p=>decide (j<p)).Perm (Y.filter fun p=>decide (j<p)):=by
     rw[List.perm_iff_count]
     intro i
     by_cases hi:j<i
     ·rw[List.count_filter (by simpa using hi),List.count_filter (by simpa using hi)]
      exact hup i (by omega)
     ·rw[List.count_eq_zero.2 (by simp[hi]),List.count_eq_zero.2 (by simp[hi])]
    rw[(hp.flatMap_right kd).count_eq]
   refine⟨hj',fun i hi=>?_⟩
   by_cases h:i=j
   ·rw[h];exact hj'
   ·exact hup i (by omega)
theorem qfs (e:List CExpr) (h:TreeL e):(List.range e.length).Perm ((e.length-1)::(List.range e.length).flatMap (qbw e)):=by
 have hflat:(List.range e.length).flatMap (qbw e)=(e.flatMap (·.kids)).map Int.toNat:=by
  have:∀ l:List CExpr,(l.flatMap (·.kids)).map Int.toNat=l.flatMap fun x=>x.kids.map Int.toNat:=by
   intro l
   rw[List.map_flatMap]
  rw[this]
  have h2:e=(List.range e.length).map fun i=>(e[i]?).getD ⟨0,0,[],[],[]⟩:=by
   refine List.ext_getElem (by simp) fun i h1 h2=>?_
   simp[h1]
  conv=>rhs;rw[h2,List.flatMap_map]
  refine qfK fun i hi=>?_
  have hi:=List.mem_range.1 hi
  unfold qbw
  simp[hi]
 have hkm:∀ k∈e.flatMap (·.kids),0≤k∧k.toNat+1<e.length:=by
  intro k hk
  obtain⟨x,hx,hkx⟩:=List.mem_flatMap.1 hk
  obtain⟨j,hj,rfl⟩:=List.getElem_of_mem hx
  have:=h.ahead j hj k hkx
  omega
 rw[hflat,List.perm_iff_count]
 intro j
 have hc:((e.flatMap (·.kids)).map Int.toNat).count j=(e.flatMap (·.kids)).count (j:Int):=by
  generalize e.flatMap (·.kids)=l at hkm
  induction l with
  | nil=>rfl
  | cons k l ih =>
    rw[List.map_cons,List.count_cons,List.count_cons,ih fun x hx=>hkm x (by simp[hx])]
    have:=(hkm k (by simp)).1
    congr 1
    by_cases hkj:k=(j:Int)
    ·subst hkj;simp
    ·have:¬ k.toNat=j:=by omega
     simp[hkj,this]
 rw[List.count_cons,hc,List.count_range]
 by_cases h1:j+1<e.length
 ·rw[h.once j h1,if_pos (by omega)]
  have:¬ e.length-1=j:=by omega
  simp[this]
 ·have hz:(e.flatMap (·.kids)).count (j:Int)=0:=List.count_eq_zero.2 fun hm=>by have:=(hkm _ hm).2;omega
  rw[hz]
  have:=h.pos
  by_cases h2:e.length-1=j
  ·rw[if_pos (by omega)];simp[h2]
  ·rw[if_neg (by omega)];simp[h2]
theorem qda (e:List CExpr) (h:TreeL e):(qbx (qbg e)).Perm (e.map (qhd e)):=by
 have hpos:=h.pos
 obtain⟨X,x1,x2,x3⟩:=qrS e h.ahead (e.length-1) (by omega)
 have hkd:∀ p,∀ j∈qbw e p,j<p:=by
  intro p j hj
  unfold qbw at hj
  cases hq:e[p]? with
  | none=>rw[hq] at hj;cases hj
  | some x =>
    rw[hq] at hj
    obtain⟨k,hk,rfl⟩:=List.mem_map.1 hj
    obtain⟨hp,rfl⟩:=List.getElem?_eq_some_iff.1 hq
    have:=h.ahead p hp k hk
    omega
 have hperm:X.Perm (List.range e.length):=by
  rw[List.perm_iff_count]
  intro j
  by_cases hj:j<e.length
  ·exact (qhL (qbw e) hkd (e.length-1) e.length X (List.range e.length) x2 (qfs e h) (fun x hx=>by have:=x3 x hx;omega) (fun y hy=>List.mem_range.1 hy) (e.length-j) j (by omega)).1
  ·rw[List.count_eq_zero.2 (fun hm=>by have:=x3 j hm;omega),List.count_eq_zero.2 (fun hm=>by have:=List.mem_range.1 hm;omega)]
 rw[qln,x1]
 refine (hperm.map _).trans ?_
 have:(List.range e.length).map (qp1 e)=e.map (qhd e):=by
  refine List.ext_getElem (by simp) fun i h1 h2=>?_
  simp only[List.getElem_map,List.getElem_range]
  unfold qp1
  rw[List.getElem?_eq_getElem (by simpa using h1)]
 rw[this]
theorem qf3 (e:List CExpr) (h:TreeL e):qbs (qbg e)=e.length:=by
 rw[← qg8,(qda e h).length_eq,List.length_map]
def qbj:List CTree→Nat→List Int
 | [],_=>[]
 | k::ks,b=>((b+qbs k-1:Nat):Int)::qbj ks (b+qbs k)
mutual
def qeo:CTree→Nat→List CExpr
 | .mk op n binds kids alts,b=>qbn kids b++[⟨op,n,binds,qbj kids b,alts⟩]
def qbn:List CTree→Nat→List CExpr
 | [],_=>[]
 | k::ks,b=>qeo k b++qbn ks (b+qbs k)
end
def qcp (t:CTree):List CExpr:=qeo t 0
mutual
def quG:CTree→List CTree
 | .mk op n binds kids alts=>qif kids++[.mk op n binds kids alts]
def qif:List CTree→List CTree
 | []=>[]
 | k::ks=>quG k++qif ks
end
mutual
theorem qfX:∀ (t:CTree) (b:Nat),(qeo t b).length=qbs t
 | .mk op n binds kids alts,b=>by rw[qeo,qbs,List.length_append,qg5 kids b];rfl
theorem qg5:∀ (ks:List CTree) (b:Nat),(qbn ks b).length=qaE ks
 | [],b=>by rw[qbn,qaE];rfl
 | k::ks,b=>by rw[qbn,qaE,List.length_append,qfX k,qg5 ks]
end
mutual
theorem qlJ:∀ t:CTree,(quG t).length=qbs t
 | .mk op n binds kids alts=>by rw[quG,qbs,List.length_append,qjK kids];rfl
theorem qjK:∀ ks:List CTree,(qif ks).length=qaE ks
 | []=>by rw[qif,qaE];rfl
 | k::ks=>by rw[qif,qaE,List.length_append,qlJ k,qjK ks]
end
theorem qnd (t:CTree) (ts zs:List CTree):(ts++quG t++zs).getD (ts.length+qbs t-1) .none=t:=by
 cases t with
 | mk op n binds kids alts =>
   have h:=qjK kids
   rw[quG,qbs,List.getD_eq_getElem?_getD,List.append_assoc,List.getElem?_append_right (by omega),List.append_assoc,List.getElem?_append_right (by omega),List.cons_append,List.nil_append]
   rw[show ts.length+(qaE kids+1)-1-ts.length-(qif kids).length=0 by omega]
   rfl
theorem qkS:∀ (ks ts zs:List CTree),(qbj ks ts.length).map (fun k=>(ts++qif ks++zs).getD k.toNat .none)=ks
 | [],ts,zs=>rfl
 | k :: ks,ts,zs => by
   rw[qbj,List.map_cons,qif]
   congr 1
   ·have:=qnd k ts (qif ks++zs)
    rw[← List.append_assoc] at this
    rw[← List.append_assoc]
    exact this
   ·have:=qkS ks (ts++quG k) zs
    rw[List.length_append,qlJ] at this
    rw[← List.append_assoc]
    exact this
mutual
theorem qmk:∀ (t:CTree) (ts:List CTree),(qeo t ts.length).foldl qdA ts=ts++quG t
 | .mk op n binds kids alts,ts => by
   rw[qeo,List.foldl_append,qku kids ts,List.foldl_cons,List.foldl_nil,quG,← List.append_assoc]
   unfold qdA
   dsimp only
   have:=qkS kids ts []
   rw[List.append_nil] at this
   rw[this]
theorem qku:∀ (ks:List CTree) (ts:List CTree),(qbn ks ts.length).foldl qdA ts=ts++qif ks
 | [],ts=>by rw[qbn,qif,List.append_nil];rfl
 | k :: ks,ts => by
   rw[qbn,List.foldl_append,qmk k ts]
   have:=qku ks (ts++quG k)
   rw[List.length_append,qlJ] at this
   rw[this,qif,List.append_assoc]
end
theorem qfW (t:CTree):qbg (qcp t)=t:=by
 unfold qbg qdp qcp
 have h:=qmk t []
 rw[List.length_nil] at h
 rw[h,qfX]
 have:=qnd t [] []
 rw[List.append_nil,List.length_nil,Nat.zero_add] at this
 exact this
def AheadB (b:Nat) (l:List CExpr):Prop:=∀ (i:Nat) (hi:i<l.length),∀ k∈l[i].kids,0≤k∧k<b+i
theorem AheadB.append {b:Nat} {l m:List CExpr} (h1:AheadB b l) (h2:AheadB (b+l.length) m):AheadB b (l++m):=by
 intro i hi k hk
 by_cases h:i<l.length
 ·rw[List.getElem_append_left h] at hk
  exact h1 i h k hk
 ·rw[List.getElem_append_right (by omega)] at hk
  rw[List.length_append] at hi
  have:=h2 (i-l.length) (by omega) k hk
  omega
theorem qjF:∀ (ks:List CTree) (b:Nat),∀ k∈qbj ks b,0≤k∧k<b+qaE ks
 | [],b,k,h=>by cases h
 | t :: ks,b,k,h => by
   have hp:=qng t
   rw[qbj] at h
   rw[qaE]
   rcases List.mem_cons.1 h with rfl | h
   ·omega
   ·have:=qjF ks (b+qbs t) k h
    omega
mutual
theorem qkf:∀ (t:CTree) (b:Nat),AheadB b (qeo t b)
 | .mk op n binds kids alts,b => by
   rw[qeo]
   refine (qiJ kids b).append ?_
   intro i hi k hk
   rw[List.length_singleton] at hi
   have hi0:i=0:=by omega
   subst hi0
   have:=qjF kids b k hk
   rw[qg5]
   omega
theorem qiJ:∀ (ks:List CTree) (b:Nat),AheadB b (qbn ks b)
 | [],b=>by rw[qbn];intro i hi;simp at hi
 | k :: ks,b => by
   rw[qbn]
   refine (qkf k b).append ?_
   rw[qfX]
   exact qiJ ks (b+qbs k)
end
theorem qof (b n:Nat):List.range' b (n+1)=List.range' b n++[b+n]:=by
 rw[← List.range'_append_1 (s:=b) (m:=n) (n:=1)]
 rfl
mutual
theorem qmx:∀ (t:CTree) (b:Nat),(((b+qbs t-1:Nat):Int)::(qeo t b).flatMap (·.kids)).Perm ((List.range' b (qbs t)).map Int.ofNat)
 | .mk op n binds kids alts,b => by
   have h:=qkz kids b
   rw[qeo,qbs,List.flatMap_append,List.flatMap_cons,List.flatMap_nil,List.append_nil,qof,List.map_append]
   refine (List.Perm.cons _ (List.perm_append_comm.trans h)).trans ?_
   rw[show b+(qaE kids+1)-1=b+qaE kids by omega]
   exact List.perm_append_comm (l₁:=[_])
theorem qkz:∀ (ks:List CTree) (b:Nat),(qbj ks b++(qbn ks b).flatMap (·.kids)).Perm ((List.range' b (qaE ks)).map Int.ofNat)
 | [],b=>by rw[qbn,qaE,qbj];exact .refl _
 | k :: ks,b => by
   have h1:=qmx k b
   have h2:=qkz ks (b+qbs k)
   rw[qbj,qbn,qaE,List.flatMap_append,← List.range'_append_1,List.map_append]
   refine List.Perm.trans ?_ (h1.append h2)
   rw[List.cons_append,List.cons_append]
   refine List.Perm.cons _ ?_
   rw[← List.append_assoc,← List.append_assoc]
   exact List.perm_append_comm.append_right _
end
theorem qjP (t:CTree):TreeL (qcp t):=by
 refine⟨by unfold qcp;rw[qfX];exact qng t,?_,?_⟩
 ·intro i hi k hk
  have:=qkf t 0 i hi k hk
  omega
 ·intro m hm
  unfold qcp at hm ⊢
  rw[qfX] at hm
  have h:=(qmx t 0).count_eq (m:Int)
  rw[List.count_cons] at h
  have h1:((List.range' 0 (qbs t)).map Int.ofNat).count (m:Int)=1:=by
   have:∀ l:List Nat,(l.map Int.ofNat).count (m:Int)=l.count m:=by
    intro l
    induction l with
    | nil=>rfl
    | cons x l ih =>
      rw[List.map_cons,List.count_cons,List.count_cons,ih]
      congr 1
      by_cases hx:x=m
      ·subst hx;simp
      ·have h3:¬ (x:Int)=(m:Int):=by omega
       simp[hx,h3]
   rw[this,← List.range_eq_range',List.count_range,if_pos (by omega)]
  rw[h1] at h
  have h2:¬ (((0+qbs t-1:Nat):Int)==(m:Int))=true:=by simp;omega
  rw[if_neg h2] at h
  exact h
end Go.Abs
