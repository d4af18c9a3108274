/-
  PARTS OF A PROOF, joined: an abstract machine for quiet code, its evaluation, and what the seat's functions answer on it. Conditions: none.
-/
import Derived.Test.YtpchghpipgpkfaaDoorCL
set_option linter.unusedVariables false
set_option linter.unusedSimpArgs false
set_option maxRecDepth 100000
set_option maxHeartbeats 4000000
namespace Go.Abs
def qaG (e:List CExpr) (j:Nat):CTree:=(qdV e).getD j .none
theorem qjB:∀ (e:List CExpr) (i j:Nat),i≤e.length→j<i→(qdV (e.take i)).getD j .none=qaG e j:=by
 intro e i j hi hj
 have key:∀ d i,i+d=e.length→j<i→(qdV (e.take i)).getD j .none=qaG e j:=by
  intro d
  induction d with
  | zero=>intro i h1 h2;rw[Nat.add_zero] at h1;rw[h1,List.take_length];rfl
  | succ d ih =>
    intro i h1 h2
    rw[← ih (i+1) (by omega) (by omega),qjA e i (by omega)]
    unfold qea
    have:=qjC e i (by omega)
    simp[List.getD_eq_getElem?_getD,List.getElem?_append_left (show j<(qdV (e.take i)).length by omega)]
 exact key (e.length-i) i (by omega) hj
theorem qb0 (e:List CExpr) (hk:qdr e) (i:Nat) (hi:i<e.length):qaG e i=.mk e[i].op e[i].n e[i].binds (e[i].kids.map fun k=>qaG e k.toNat) e[i].alts:=by
 rw[← qjB e (i+1) i (by omega) (by omega),qjA e i hi]
 unfold qea
 have hl:=qjC e i (by omega)
 rw[List.getD_eq_getElem?_getD,List.getElem?_append_right (by omega),hl,Nat.sub_self]
 show CTree.mk _ _ _ _ _=_
 congr 1
 refine List.map_congr_left fun k hkm=>?_
 obtain⟨k0,k1⟩:=hk i hi k hkm
 exact qjB e i k.toNat (by omega) (by omega)
theorem qdJ (e:List CExpr):qbD e=qaG e (e.length-1):=rfl
def qAG (l:List Int) (b:Int):Int:=l.foldl max b
theorem qph:∀ (ks:List CTree) (b:Nat),qAG (ks.map fun k=>(hgt k:Int)) b=(max b (qcS ks):Nat)
 | [],b=>by simp[qAG,qcS]
 | k :: ks,b => by
   unfold qAG
   rw[List.map_cons,List.foldl_cons,qcS]
   have:=qph ks (max b (hgt k))
   unfold qAG at this
   rw[show max (b:Int) (hgt k:Int)=((max b (hgt k):Nat):Int) by omega,this]
   omega
theorem qir (l:List Int) (i j:Nat) (v:Int) (hi:i<l.length):(l.set i v).getD j 0=if j=i then v else l.getD j 0:=by
 rw[List.getD_eq_getElem?_getD,List.getElem?_set]
 by_cases h:i=j
 ·subst h
  simp[hi]
 ·rw[if_neg h,if_neg (fun e=>h e.symm),List.getD_eq_getElem?_getD]
theorem qrQ (i:Nat):∀ (ks:List Int) (j:Nat) (dp:DP),i<dp.1.length→(∀ k∈ks,0≤k∧k<i)→(∀ k∈ks,k.toNat<dp.2.length) →
  ∃ dp',qbJ (qsZ i) ks j dp=.ok dp'∧dp'.1.length=dp.1.length∧dp'.2.length=dp.2.length ∧
   (∀ m,dp'.1.getD m 0=if m=i then qAG (ks.map fun k=>dp.1.getD k.toNat 0) (dp.1.getD i 0) else dp.1.getD m 0)∧(∀ m:Nat,dp'.2.getD m 0=dp.2.getD m 0+(ks.count (m:Int):Nat))
 | [],j,dp,hi,hk,hk2=>⟨dp,rfl,rfl,rfl,fun m=>by by_cases h:m=i<;>simp[h,qAG],fun m=>by simp⟩
 | k :: ks,j,dp,hi,hk,hk2 => by
   obtain⟨k0,k1⟩:=hk k (by simp)
   have k2:=hk2 k (by simp)
   rw[qbJ]
   have hs:qsZ i j dp k=.ok (qc4 i k dp):=if_neg (by omega)
   rw[hs]
   dsimp only
   obtain⟨dp',h1,h2,h3,h4,h5⟩:=qrQ i ks (j+1) (qc4 i k dp) (by simpa[qc4] using hi) (fun x hx=>hk x (by simp[hx])) (fun x hx=>by simpa[qc4] using hk2 x (by simp[hx]))
   refine⟨dp',h1,by rw[h2];simp[qc4],by rw[h3];simp[qc4],fun m=>?_,fun m=>?_⟩
   ·rw[h4]
    by_cases hm:m=i
    ·rw[if_pos hm,if_pos hm]
     unfold qc4
     dsimp only
     rw[qir _ _ _ _ hi,if_pos rfl]
     unfold qAG
     rw[List.map_cons,List.foldl_cons]
     congr 1
     refine List.map_congr_left fun x hx=>?_
     have:=hk x (by simp[hx])
     rw[qir _ _ _ _ hi,if_neg (by omega)]
    ·rw[if_neg hm,if_neg hm]
     unfold qc4
     dsimp only
     rw[qir _ _ _ _ hi,if_neg hm]
   ·rw[h5,List.count_cons]
    unfold qc4
    dsimp only
    rw[qir _ _ _ _ k2]
    by_cases hm:m=k.toNat
    ·rw[if_pos hm,hm]
     have:(k==((k.toNat:Nat):Int))=true:=by simpa using by omega
     rw[if_pos this]
     omega
    ·rw[if_neg hm]
     have:¬ (k==(m:Int))=true:=by simpa using by omega
     rw[if_neg this]
     omega
theorem qrP (i:Nat):∀ (ks:List Int) (j:Nat) (dp:DP),(∃ k∈ks,¬ (0≤k∧k<i))→qbJ (qsZ i) ks j dp=.error ()
 | [],j,dp,h=>by obtain⟨k,hk,_⟩:=h;cases hk
 | k :: ks,j,dp,h => by
   rw[qbJ]
   unfold qsZ
   by_cases hb:k<0∨(i:Int)≤k
   ·rw[if_pos hb]
   ·rw[if_neg hb]
    dsimp only
    obtain⟨x,hx,hn⟩:=h
    rcases List.mem_cons.1 hx with rfl | hx
    ·omega
    ·have:=qrP i ks (j+1) (qc4 i k dp) ⟨x,hx,hn⟩
     unfold qsZ at this
     exact this
structure RunTree (e:List CExpr) (i:Nat) (dp:DP):Prop where
 l1:dp.1.length=e.length
 l2:dp.2.length=e.length
 deep:∀ m,m<e.length→dp.1.getD m 0=if m<i then (hgt (qaG e m):Int) else 0
 par:∀ m:Nat,dp.2.getD m 0=(((e.take i).flatMap (·.kids)).count (m:Int):Nat)
theorem qya (e:List CExpr) (hk:qdr e) (i:Nat) (hi:i<e.length) (dp:DP) (h:RunTree e i dp):∃ dp',qln i dp e[i]=.ok dp'∧RunTree e (i+1) dp':=by
 obtain⟨d,h1,h2,h3,h4,h5⟩:=qrQ i e[i].kids 0 dp (by rw[h.l1];exact hi) (fun k hkm=>hk i hi k hkm) (fun k hkm=>by have:=hk i hi k hkm;rw[h.l2];omega)
 refine⟨_,by unfold qln;rw[h1],⟨by simp[h2,h.l1],by rw[h3,h.l2],fun m hm=>?_,fun m=>?_⟩⟩
 ·dsimp only
  rw[qir _ _ _ _ (by rw[h2,h.l1];exact hi),h4,h4]
  by_cases hmi:m=i
  ·rw[if_pos hmi,if_pos rfl,if_pos (by omega),hmi,qb0 e hk i hi,hgt]
   have hd:dp.1.getD i 0=((0:Nat):Int):=by rw[h.deep i hi,if_neg (by omega)];rfl
   rw[hd]
   have hm:(e[i].kids.map fun k=>dp.1.getD k.toNat 0)=((e[i].kids.map fun k=>qaG e k.toNat).map fun k=>(hgt k:Int)):=by
    rw[List.map_map]
    refine List.map_congr_left fun k hkm=>?_
    obtain⟨k0,k1⟩:=hk i hi k hkm
    rw[h.deep k.toNat (by omega),if_pos (by omega)]
    rfl
   rw[hm,qph]
   omega
  ·rw[if_neg hmi,if_neg hmi,h.deep m hm]
   by_cases hlt:m<i
   ·rw[if_pos hlt,if_pos (by omega)]
   ·rw[if_neg hlt,if_neg (by omega)]
 ·dsimp only
  rw[h5,h.par,List.take_succ_eq_append_getElem hi,List.flatMap_append,List.count_append]
  simp
theorem qAV (e:List CExpr) (i:Nat) (hi:i<e.length) (dp:DP) (h:∃ k∈e[i].kids,¬ (0≤k∧k<i)):qln i dp e[i]=.error ():=by
 unfold qln
 rw[qrP i e[i].kids 0 dp h]
theorem qyb (e:List CExpr):RunTree e 0 (List.replicate e.length 0,List.replicate e.length 0):=by
 refine⟨by simp,by simp,fun m hm=>?_,fun m=>?_⟩
 ·rw[if_neg (by omega)]
  simp[List.getD_eq_getElem?_getD,List.getElem?_replicate]
  split<;>rfl
 ·simp[List.getD_eq_getElem?_getD,List.getElem?_replicate]
  split<;>rfl
theorem qBR (e:List CExpr) (hk:qdr e):∃ dp,qjj e=.ok dp∧RunTree e e.length dp:=by
 have key:∀ d i dp,i+d=e.length→RunTree e i dp→∃ dp',qbJ qln (e.drop i) i dp=.ok dp'∧RunTree e e.length dp':=by
  intro d
  induction d with
  | zero=>intro i dp h1 h2;rw[Nat.add_zero] at h1;subst h1;rw[List.drop_length];exact⟨dp,rfl,h2⟩
  | succ d ih =>
    intro i dp h1 h2
    have hi:i<e.length:=by omega
    obtain⟨dp',h3,h4⟩:=qya e hk i hi dp h2
    rw[List.drop_eq_getElem_cons hi,qbJ,h3]
    exact ih (i+1) dp' (by omega) h4
 have:=key e.length 0 _ (by omega) (qyb e)
 rwa [List.drop_zero] at this
theorem qAU (e:List CExpr) (hk:¬ qdr e):qjj e=.error ():=by
 have key:∀ d i dp,i+d=e.length→(∃ j,∃ hj:j<e.length,i≤j∧∃ k∈e[j].kids,¬ (0≤k∧k<j))→qbJ qln (e.drop i) i dp=.error ():=by
  intro d
  induction d with
  | zero=>intro i dp h1 h2;obtain⟨j,hj,h3,_⟩:=h2;omega
  | succ d ih =>
    intro i dp h1 h2
    have hi:i<e.length:=by omega
    rw[List.drop_eq_getElem_cons hi,qbJ]
    obtain⟨j,hj,h3,h4⟩:=h2
    by_cases hij:i=j
    ·subst hij
     rw[qAV e i hi dp h4]
    ·cases hq:qln i dp e[i] with
     | error u=>rfl
     | ok dp'=>exact ih (i+1) dp' (by omega) ⟨j,hj,by omega,h4⟩
 have:=key e.length 0 (List.replicate e.length 0,List.replicate e.length 0) (by omega) (by
  refine Classical.byContradiction fun hn=>hk fun i hi k hkm=>?_
  refine Classical.byContradiction fun hb=>hn ⟨i,hi,by omega,k,hkm,hb⟩)
 rwa [List.drop_zero] at this
theorem qgS {α:Type} (p:Nat→α→Bool):∀ (xs:List α) (k:Nat),(qaE (fun i a=>if p i a=true then some () else none) xs k).isSome=true↔∃ i,∃ hi:i<xs.length,p (k+i) xs[i]=true
 | [],k=>by simp[qaE]
 | x :: xs,k => by
   rw[qaE]
   cases hp:p k x with
   | true=>simp only[if_true,Option.isSome_some,true_iff];exact⟨0,by simp,by simpa using hp⟩
   | false =>
     simp only[Bool.false_eq_true,if_false]
     rw[qgS p xs (k+1)]
     constructor
     ·rintro ⟨i,hi,h⟩
      exact⟨i+1,by simp;omega,by simpa[show k+(i+1)=k+1+i by omega] using h⟩
     ·rintro ⟨i,hi,h⟩
      cases i with
      | zero=>simp[hp] at h
      | succ i=>exact⟨i,by simpa using hi,by simpa[show k+(i+1)=k+1+i by omega] using h⟩
structure TreeL (e:List CExpr):Prop where
 pos:0<e.length
 ahead:qdr e
 once:∀ m:Nat,m+1<e.length→(e.flatMap (·.kids)).count (m:Int)=1
theorem qgG (e:List CExpr):qeU e=0↔TreeL e∧e.length≤4096∧hgt (qbD e)≤400:=by
 unfold qeU
 by_cases h1:(4096:Int)<e.length
 ·rw[if_pos h1]
  refine⟨fun h=>absurd h (by decide),fun h=>?_⟩
  have:=h.2.1
  omega
 ·rw[if_neg h1]
  by_cases h2:e.length=0
  ·rw[if_pos h2]
   refine⟨fun h=>absurd h (by decide),fun h=>?_⟩
   have:=h.1.pos
   omega
  ·rw[if_neg h2]
   by_cases hk:qdr e
   ·obtain⟨dp,h3,h4⟩:=qBR e hk
    rw[h3]
    dsimp only
    have hdeep:=h4.deep (e.length-1) (by omega)
    rw[if_pos (by omega)] at hdeep
    have hpar:=h4.par
    rw[List.take_length] at hpar
    have hany:(qaE (fun i p=>if qf4 e.length i p=true then some () else none) dp.2 0).isSome=true↔¬ ∀ m:Nat,m+1<e.length→(e.flatMap (·.kids)).count (m:Int)=1:=by
     rw[qgS]
     constructor
     ·rintro ⟨i,hi,hb⟩ hall
      have hp:dp.2[i]=((e.flatMap (·.kids)).count (i:Int):Nat):=by
       have:=hpar i
       rw[List.getD_eq_getElem?_getD,List.getElem?_eq_getElem hi] at this
       exact this
      unfold qf4 at hb
      rw[Nat.zero_add,hp] at hb
      by_cases hlt:i+1<e.length
      ·rw[hall i hlt] at hb
       have:(i:Int)<(e.length:Int)-1:=by omega
       simp[this] at hb
      ·have hc:(e.flatMap (·.kids)).count (i:Int)=0:=by
        rw[List.count_eq_zero]
        intro hm
        obtain⟨x,hx,hkx⟩:=List.mem_flatMap.1 hm
        obtain⟨j,hj,rfl⟩:=List.getElem_of_mem hx
        have:=hk j hj _ hkx
        omega
       rw[hc] at hb
       have:¬ (i:Int)<(e.length:Int)-1:=by omega
       simp[this] at hb
     ·intro hn
      refine Classical.byContradiction fun hb=>hn fun m hm=>?_
      have hml:m<dp.2.length:=by rw[h4.l2];omega
      have hp:dp.2[m]=((e.flatMap (·.kids)).count (m:Int):Nat):=by
       have:=hpar m
       rw[List.getD_eq_getElem?_getD,List.getElem?_eq_getElem hml] at this
       exact this
      have h5:¬ qf4 e.length (0+m) dp.2[m]=true:=fun h=>hb ⟨m,hml,h⟩
      unfold qf4 at h5
      rw[Nat.zero_add,hp] at h5
      have:(m:Int)<(e.length:Int)-1:=by omega
      simp[this] at h5
      omega
    by_cases hs:(qaE (fun i p=>if qf4 e.length i p=true then some () else none) dp.2 0).isSome=true
    ·rw[if_pos hs]
     exact⟨fun h=>absurd h (by decide),fun h=>absurd h.1.once (hany.1 hs)⟩
    ·rw[if_neg hs,hdeep]
     have honce:=Classical.not_not.1 (fun h=>hs (hany.2 h))
     rw[qdJ]
     by_cases hh:(400:Int)<(hgt (qaG e (e.length-1)):Int)
     ·rw[if_pos hh]
      exact⟨fun h=>absurd h (by decide),fun h=>by have:=h.2.2;omega⟩
     ·rw[if_neg hh]
      exact⟨fun _=>⟨⟨by omega,hk,honce⟩,by omega,by omega⟩,fun _=>rfl⟩
   ·rw[qAU e hk]
    show (3:Int)=0↔_
    exact⟨fun h=>absurd h (by decide),fun h=>absurd h.1.ahead hk⟩
def qce:CTree→Int
 | .mk op _ _ _ _=>op
mutual
def qbg:CTree→List Lab
 | .mk op n binds kids alts=>qaY kids++[⟨op,n,binds,kids.map qce,alts⟩]
def qaY:List CTree→List Lab
 | []=>[]
 | k::ks=>qbg k++qaY ks
end
mutual
def qaJ:CTree→Nat
 | .mk _ _ _ kids _=>qaF kids+1
def qaF:List CTree→Nat
 | []=>0
 | k::ks=>qaJ k+qaF ks
end
theorem qfo (t:CTree):0<qaJ t:=by cases t;rw[qaJ];omega
mutual
theorem qiD:∀ t:CTree,(qbg t).length=qaJ t
 | .mk op n binds kids alts=>by rw[qbg,qaJ,List.length_append,qmV kids];rfl
theorem qmV:∀ ks:List CTree,(qaY ks).length=qaF ks
 | []=>by rw[qaY,qaF];rfl
 | k::ks=>by rw[qaY,qaF,List.length_append,qiD k,qmV ks]
end
def qbm (e:List CExpr) (p:Nat):List Nat:=match e[p]? with | some x=>x.kids.map Int.toNat | none=>[]
def qs1 (e:List CExpr) (p:Nat):Lab:=match e[p]? with | some x=>qhb e x | none=>⟨0,0,[],[],[]⟩
theorem qv0 (e:List CExpr) (hk:qdr e) (k:Int) (h0:0≤k) (h1:k<e.length):qce (qaG e k.toNat)=qwE e k:=by
 have hi:k.toNat<e.length:=by omega
 rw[qb0 e hk k.toNat hi]
 unfold qwE
 rw[List.getElem?_eq_getElem hi]
 rfl
theorem qgT {α β:Type} {f g:α→List β}:∀ {l:List α},(∀ x∈l,f x=g x)→l.flatMap f=l.flatMap g
 | [],_=>rfl
 | x::l,h=>by rw[List.flatMap_cons,List.flatMap_cons,h x (by simp),qgT fun y hy=>h y (by simp[hy])]
theorem qvi (e:List CExpr) (hk:qdr e):∀ (i:Nat),i<e.length→∃ X:List Nat,qbg (qaG e i)=X.map (qs1 e)∧X.Perm (i::X.flatMap (qbm e))∧∀ x∈X,x≤i:=by
 intro i
 induction i using Nat.strongRecOn with
 | ind i ih =>
   intro hi
   have key:∀ ks:List Int,(∀ k∈ks,0≤k∧k<i)→∃ Y:List Nat,qaY (ks.map fun k=>qaG e k.toNat)=Y.map (qs1 e)∧Y.Perm (ks.map Int.toNat++Y.flatMap (qbm e))∧∀ y∈Y,y<i:=by
    intro ks
    induction ks with
    | nil=>intro _;exact⟨[],by rw[List.map_nil,qaY];rfl,.refl _,by simp⟩
    | cons k ks ihk =>
      intro h
      obtain⟨k0,k1⟩:=h k (by simp)
      obtain⟨Y,y1,y2,y3⟩:=ihk fun x hx=>h x (by simp[hx])
      obtain⟨X,x1,x2,x3⟩:=ih k.toNat (by omega) (by omega)
      refine⟨X++Y,by rw[List.map_cons,qaY,x1,y1,List.map_append],?_,fun z hz=>?_⟩
      ·rw[List.flatMap_append,List.map_cons,List.cons_append]
       refine (x2.append y2).trans ?_
       rw[List.cons_append]
       refine List.Perm.cons _ ?_
       rw[← List.append_assoc,← List.append_assoc]
       exact List.perm_append_comm.append_right _
      ·rcases List.mem_append.1 hz with hz | hz
       ·have:=x3 z hz;omega
       ·exact y3 z hz
   obtain⟨Y,y1,y2,y3⟩:=key e[i].kids (hk i hi)
   have hki:qbm e i=e[i].kids.map Int.toNat:=by unfold qbm;rw[List.getElem?_eq_getElem hi]
   have hli:qs1 e i=qhb e e[i]:=by unfold qs1;rw[List.getElem?_eq_getElem hi]
   refine⟨Y++[i],?_,?_,?_⟩
   ·rw[qb0 e hk i hi,qbg,y1,List.map_append]
    congr 1
    show [_]=[_]
    rw[hli]
    unfold qhb
    rw[List.map_map]
    congr 2
    refine List.map_congr_left fun k hkm=>?_
    obtain⟨k0,k1⟩:=hk i hi k hkm
    exact qv0 e hk k k0 (by omega)
   ·rw[List.flatMap_append,List.flatMap_cons,List.flatMap_nil,List.append_nil,hki]
    refine List.perm_append_comm.trans ?_
    rw[List.cons_append,List.nil_append]
    exact List.Perm.cons _ (y2.trans List.perm_append_comm)
   ·intro x hx
    rcases List.mem_append.1 hx with hx | hx
    ·have:=y3 x hx;omega
    ·have:=List.mem_singleton.1 hx;omega
theorem qgl (kd:Nat→List Nat) (hk:∀ p,∀ j∈kd p,j<p) (r N:Nat) (X Y:List Nat) (hX:X.Perm (r::X.flatMap kd)) (hY:Y.Perm (r::Y.flatMap kd)) (bX:∀ x∈X,x<N) (bY:∀ y∈Y,y<N) :
  ∀ (d j:Nat),j+d=N→X.count j=Y.count j∧∀ i,j≤i→X.count i=Y.count i:=by
 have split:∀ (Z:List Nat) (j:Nat),(Z.flatMap kd).count j=((Z.filter fun p=>decide (j<p)).flatMap kd).count j:=by
  intro Z j
  induction Z with
  | nil=>rfl
  | cons z Z ih =>
    rw[List.flatMap_cons,List.count_append,ih]
    by_cases h:j<z
    ·rw[List.filter_cons_of_pos (by simpa using h),List.flatMap_cons,List.count_append]
    ·rw[List.filter_cons_of_neg (by simpa using h),List.count_eq_zero.2 (fun hm=>h (hk z j hm)),Nat.zero_add]
 intro d
 induction d with
 | zero =>
   intro j hj
   have h0:∀ i,j≤i→X.count i=Y.count i:=by
    intro i hi
    rw[List.count_eq_zero.2 (fun hm=>by have:=bX i hm;omega),List.count_eq_zero.2 (fun hm=>by have:=bY i hm;omega)]
   exact⟨h0 j (by omega),h0⟩
 | succ d ih =>
   intro j hj
   obtain⟨_,hup⟩:=ih (j+1) (by omega)
   have hj':X.count j=Y.count j:=by
    rw[hX.count_eq,hY.count_eq,List.count_cons,List.count_cons,split X j,split Y j]
    have hp:(X.filter fun p=>decide (j<p)).Perm (Y.filter fun p=>decide (j<p)):=by
     rw[List.perm_iff_count]
     intro i
     by_cases hi:j<i
     ·rw[List.count_filter (by simpa using hi),List.count_filter (by simpa using hi)]
      exact hup i (by omega)
     ·rw[List.count_eq_zero.2 (by simp[hi]),List.count_eq_zero.2 (by simp[hi])]
    rw[(hp.flatMap_right kd).count_eq]
   refine⟨hj',fun i hi=>?_⟩
   by_cases h:i=j
   ·rw[h];exact hj'
   ·exact hup i (by omega)
theorem qeN (e:List CExpr) (h:TreeL e):(List.range e.length).Perm ((e.length-1)::(List.range e.length).flatMap (qbm e)):=by
 have hflat:(List.range e.length).flatMap (qbm e)=(e.flatMap (·.kids)).map Int.toNat:=by
  have:∀ l:List CExpr,(l.flatMap (·.kids)).map Int.toNat=l.flatMap fun x=>x.kids.map Int.toNat:=by
   intro l
   rw[List.map_flatMap]
  rw[this]
  have h2:e=(List.range e.length).map fun i=>(e[i]?).getD ⟨0,0,[],[],[]⟩:=by
   refine List.ext_getElem (by simp) fun i h1 h2=>?_
   simp[h1]
  conv=>rhs;rw[h2,List.flatMap_map]
  refine qgT fun i hi=>?_
  have hi:=List.mem_range.1 hi
  unfold qbm
  simp[hi]
 have hkm:∀ k∈e.flatMap (·.kids),0≤k∧k.toNat+1<e.length:=by
  intro k hk
  obtain⟨x,hx,hkx⟩:=List.mem_flatMap.1 hk
  obtain⟨j,hj,rfl⟩:=List.getElem_of_mem hx
  have:=h.ahead j hj k hkx
  omega
 rw[hflat,List.perm_iff_count]
 intro j
 have hc:((e.flatMap (·.kids)).map Int.toNat).count j=(e.flatMap (·.kids)).count (j:Int):=by
  generalize e.flatMap (·.kids)=l at hkm
  induction l with
  | nil=>rfl
  | cons k l ih =>
    rw[List.map_cons,List.count_cons,List.count_cons,ih fun x hx=>hkm x (by simp[hx])]
    have:=(hkm k (by simp)).1
    congr 1
    by_cases hkj:k=(j:Int)
    ·subst hkj;simp
    ·have:¬ k.toNat=j:=by omega
     simp[hkj,this]
 rw[List.count_cons,hc,List.count_range]
 by_cases h1:j+1<e.length
 ·rw[h.once j h1,if_pos (by omega)]
  have:¬ e.length-1=j:=by omega
  simp[this]
 ·have hz:(e.flatMap (·.kids)).count (j:Int)=0:=List.count_eq_zero.2 fun hm=>by have:=(hkm _ hm).2;omega
  rw[hz]
  have:=h.pos
  by_cases h2:e.length-1=j
  ·rw[if_pos (by omega)];simp[h2]
  ·rw[if_neg (by omega)];simp[h2]
theorem qdy (e:List CExpr) (h:TreeL e):(qbg (qbD e)).Perm (e.map (qhb e)):=by
 have hpos:=h.pos
 obtain⟨X,x1,x2,x3⟩:=qvi e h.ahead (e.length-1) (by omega)
 have hkd:∀ p,∀ j∈qbm e p,j<p:=by
  intro p j hj
  unfold qbm at hj
  cases hq:e[p]? with
  | none=>rw[hq] at hj;cases hj
  | some x =>
    rw[hq] at hj
    obtain⟨k,hk,rfl⟩:=List.mem_map.1 hj
    obtain⟨hp,rfl⟩:=List.getElem?_eq_some_iff.1 hq
    have:=h.ahead p hp k hk
    omega
 have hperm:X.Perm (List.range e.length):=by
  rw[List.perm_iff_count]
  intro j
  by_cases hj:j<e.length
  ·exact (qgl (qbm e) hkd (e.length-1) e.length X (List.range e.length) x2 (qeN e h) (fun x hx=>by have:=x3 x hx;omega) (fun y hy=>List.mem_range.1 hy) (e.length-j) j (by omega)).1
  ·rw[List.count_eq_zero.2 (fun hm=>by have:=x3 j hm;omega),List.count_eq_zero.2 (fun hm=>by have:=List.mem_range.1 hm;omega)]
 rw[qdJ,x1]
 refine (hperm.map _).trans ?_
 have:(List.range e.length).map (qs1 e)=e.map (qhb e):=by
  refine List.ext_getElem (by simp) fun i h1 h2=>?_
  simp only[List.getElem_map,List.getElem_range]
  unfold qs1
  rw[List.getElem?_eq_getElem (by simpa using h1)]
 rw[this]
theorem qhe (e:List CExpr) (h:TreeL e):qaJ (qbD e)=e.length:=by
 rw[← qiD,(qdy e h).length_eq,List.length_map]
def qbl:List CTree→Nat→List Int
 | [],_=>[]
 | k::ks,b=>((b+qaJ k-1:Nat):Int)::qbl ks (b+qaJ k)
mutual
def qdY:CTree→Nat→List CExpr
 | .mk op n binds kids alts,b=>qbt kids b++[⟨op,n,binds,qbl kids b,alts⟩]
def qbt:List CTree→Nat→List CExpr
 | [],_=>[]
 | k::ks,b=>qdY k b++qbt ks (b+qaJ k)
end
def qau (t:CTree):List CExpr:=qdY t 0
mutual
def ql0:CTree→List CTree
 | .mk op n binds kids alts=>qeg kids++[.mk op n binds kids alts]
def qeg:List CTree→List CTree
 | []=>[]
 | k::ks=>ql0 k++qeg ks
end
mutual
theorem qcv:∀ (t:CTree) (b:Nat),(qdY t b).length=qaJ t
 | .mk op n binds kids alts,b=>by rw[qdY,qaJ,List.length_append,qix kids b];rfl
theorem qix:∀ (ks:List CTree) (b:Nat),(qbt ks b).length=qaF ks
 | [],b=>by rw[qbt,qaF];rfl
 | k::ks,b=>by rw[qbt,qaF,List.length_append,qcv k,qix ks]
end
mutual
theorem qn9:∀ t:CTree,(ql0 t).length=qaJ t
 | .mk op n binds kids alts=>by rw[ql0,qaJ,List.length_append,qlM kids];rfl
theorem qlM:∀ ks:List CTree,(qeg ks).length=qaF ks
 | []=>by rw[qeg,qaF];rfl
 | k::ks=>by rw[qeg,qaF,List.length_append,qn9 k,qlM ks]
end
theorem qpQ (t:CTree) (ts zs:List CTree):(ts++ql0 t++zs).getD (ts.length+qaJ t-1) .none=t:=by
 cases t with
 | mk op n binds kids alts =>
   have h:=qlM kids
   rw[ql0,qaJ,List.getD_eq_getElem?_getD,List.append_assoc,List.getElem?_append_right (by omega),List.append_assoc,List.getElem?_append_right (by omega),List.cons_append,List.nil_append]
   rw[show ts.length+(qaF kids+1)-1-ts.length-(qeg kids).length=0 by omega]
   rfl
theorem qm8:∀ (ks ts zs:List CTree),(qbl ks ts.length).map (fun k=>(ts++qeg ks++zs).getD k.toNat .none)=ks
 | [],ts,zs=>rfl
 | k :: ks,ts,zs => by
   rw[qbl,List.map_cons,qeg]
   congr 1
   ·have:=qpQ k ts (qeg ks++zs)
    rw[← List.append_assoc] at this
    rw[← List.append_assoc]
    exact this
   ·have:=qm8 ks (ts++ql0 k) zs
    rw[List.length_append,qn9] at this
    rw[← List.append_assoc]
    exact this
mutual
theorem qoM:∀ (t:CTree) (ts:List CTree),(qdY t ts.length).foldl qea ts=ts++ql0 t
 | .mk op n binds kids alts,ts => by
   rw[qdY,List.foldl_append,qmF kids ts,List.foldl_cons,List.foldl_nil,ql0,← List.append_assoc]
   unfold qea
   dsimp only
   have:=qm8 kids ts []
   rw[List.append_nil] at this
   rw[this]
theorem qmF:∀ (ks:List CTree) (ts:List CTree),(qbt ks ts.length).foldl qea ts=ts++qeg ks
 | [],ts=>by rw[qbt,qeg,List.append_nil];rfl
 | k :: ks,ts => by
   rw[qbt,List.foldl_append,qoM k ts]
   have:=qmF ks (ts++ql0 k)
   rw[List.length_append,qn9] at this
   rw[this,qeg,List.append_assoc]
end
theorem qb5 (t:CTree):qbD (qau t)=t:=by
 unfold qbD qdV qau
 have h:=qoM t []
 rw[List.length_nil] at h
 rw[h,qcv]
 have:=qpQ t [] []
 rw[List.append_nil,List.length_nil,Nat.zero_add] at this
 exact this
def AheadB (b:Nat) (l:List CExpr):Prop:=∀ (i:Nat) (hi:i<l.length),∀ k∈l[i].kids,0≤k∧k<b+i
theorem AheadB.append {b:Nat} {l m:List CExpr} (h1:AheadB b l) (h2:AheadB (b+l.length) m):AheadB b (l++m):=by
 intro i hi k hk
 by_cases h:i<l.length
 ·rw[List.getElem_append_left h] at hk
  exact h1 i h k hk
 ·rw[List.getElem_append_right (by omega)] at hk
  rw[List.length_append] at hi
  have:=h2 (i-l.length) (by omega) k hk
  omega
theorem qlH:∀ (ks:List CTree) (b:Nat),∀ k∈qbl ks b,0≤k∧k<b+qaF ks
 | [],b,k,h=>by cases h
 | t :: ks,b,k,h => by
   have hp:=qfo t
   rw[qbl] at h
   rw[qaF]
   rcases List.mem_cons.1 h with rfl | h
   ·omega
   ·have:=qlH ks (b+qaJ t) k h
    omega
mutual
theorem qmm:∀ (t:CTree) (b:Nat),AheadB b (qdY t b)
 | .mk op n binds kids alts,b => by
   rw[qdY]
   refine (qkq kids b).append ?_
   intro i hi k hk
   rw[List.length_singleton] at hi
   have hi0:i=0:=by omega
   subst hi0
   have:=qlH kids b k hk
   rw[qix]
   omega
theorem qkq:∀ (ks:List CTree) (b:Nat),AheadB b (qbt ks b)
 | [],b=>by rw[qbt];intro i hi;simp at hi
 | k :: ks,b => by
   rw[qbt]
   refine (qmm k b).append ?_
   rw[qcv]
   exact qkq ks (b+qaJ k)
end
theorem qqX (b n:Nat):List.range' b (n+1)=List.range' b n++[b+n]:=by
 rw[← List.range'_append_1 (s:=b) (m:=n) (n:=1)]
 rfl
mutual
theorem qo1:∀ (t:CTree) (b:Nat),(((b+qaJ t-1:Nat):Int)::(qdY t b).flatMap (·.kids)).Perm ((List.range' b (qaJ t)).map Int.ofNat)
 | .mk op n binds kids alts,b => by
   have h:=qmJ kids b
   rw[qdY,qaJ,List.flatMap_append,List.flatMap_cons,List.flatMap_nil,List.append_nil,qqX,List.map_append]
   refine (List.Perm.cons _ (List.perm_append_comm.trans h)).trans ?_
   rw[show b+(qaF kids+1)-1=b+qaF kids by omega]
   exact List.perm_append_comm (l₁:=[_])
theorem qmJ:∀ (ks:List CTree) (b:Nat),(qbl ks b++(qbt ks b).flatMap (·.kids)).Perm ((List.range' b (qaF ks)).map Int.ofNat)
 | [],b=>by rw[qbt,qaF,qbl];exact .refl _
 | k :: ks,b => by
   have h1:=qo1 k b
   have h2:=qmJ ks (b+qaJ k)
   rw[qbl,qbt,qaF,List.flatMap_append,← List.range'_append_1,List.map_append]
   refine List.Perm.trans ?_ (h1.append h2)
   rw[List.cons_append,List.cons_append]
   refine List.Perm.cons _ ?_
   rw[← List.append_assoc,← List.append_assoc]
   exact List.perm_append_comm.append_right _
end
theorem qgH (t:CTree):TreeL (qau t):=by
 refine⟨by unfold qau;rw[qcv];exact qfo t,?_,?_⟩
 ·intro i hi k hk
  have:=qmm t 0 i hi k hk
  omega
 ·intro m hm
  unfold qau at hm ⊢
  rw[qcv] at hm
  have h:=(qo1 t 0).count_eq (m:Int)
  rw[List.count_cons] at h
  have h1:((List.range' 0 (qaJ t)).map Int.ofNat).count (m:Int)=1:=by
   have:∀ l:List Nat,(l.map Int.ofNat).count (m:Int)=l.count m:=by
    intro l
    induction l with
    | nil=>rfl
    | cons x l ih =>
      rw[List.map_cons,List.count_cons,List.count_cons,ih]
      congr 1
      by_cases hx:x=m
      ·subst hx;simp
      ·have h3:¬ (x:Int)=(m:Int):=by omega
       simp[hx,h3]
   rw[this,← List.range_eq_range',List.count_range,if_pos (by omega)]
  rw[h1] at h
  have h2:¬ (((0+qaJ t-1:Nat):Int)==(m:Int))=true:=by simp;omega
  rw[if_neg h2] at h
  exact h
end Go.Abs
