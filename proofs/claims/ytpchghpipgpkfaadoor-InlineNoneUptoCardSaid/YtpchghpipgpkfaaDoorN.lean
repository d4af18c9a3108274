/-
  PARTS OF A PROOF, joined: an abstract machine for quiet code, its evaluation, and what the seat's functions answer on it. Conditions: none.
-/
import Derived.Test.YtpchghpipgpkfaaDoorCL
set_option linter.unusedVariables false
set_option linter.unusedSimpArgs false
set_option maxRecDepth 100000
set_option maxHeartbeats 4000000
namespace Go.Abs
def qaW (e:List CExpr) (j:Nat):CTree:=(qdv e).getD j .none
theorem qiC:∀ (e:List CExpr) (i j:Nat),i≤e.length→j<i→(qdv (e.take i)).getD j .none=qaW e j:=by
 intro e i j hi hj
 have key:∀ d i,i+d=e.length→j<i→(qdv (e.take i)).getD j .none=qaW e j:=by
  intro d
  induction d with
  | zero=>intro i h1 h2;rw[Nat.add_zero] at h1;rw[h1,List.take_length];rfl
  | succ d ih =>
    intro i h1 h2
    rw[← ih (i+1) (by omega) (by omega),qiB e i (by omega)]
    unfold qdE
    have:=qiD e i (by omega)
    simp[List.getD_eq_getElem?_getD,List.getElem?_append_left (show j<(qdv (e.take i)).length by omega)]
 exact key (e.length-i) i (by omega) hj
theorem qc0 (e:List CExpr) (hk:qdz e) (i:Nat) (hi:i<e.length):qaW e i=.mk e[i].op e[i].n e[i].binds (e[i].kids.map fun k=>qaW e k.toNat) e[i].alts:=by
 rw[← qiC e (i+1) i (by omega) (by omega),qiB e i hi]
 unfold qdE
 have hl:=qiD e i (by omega)
 rw[List.getD_eq_getElem?_getD,List.getElem?_append_right (by omega),hl,Nat.sub_self]
 show CTree.mk _ _ _ _ _=_
 congr 1
 refine List.map_congr_left fun k hkm=>?_
 obtain⟨k0,k1⟩:=hk i hi k hkm
 exact qiC e i k.toNat (by omega) (by omega)
theorem qe1 (e:List CExpr):qbr e=qaW e (e.length-1):=rfl
def qyJ (l:List Int) (b:Int):Int:=l.foldl max b
theorem qol:∀ (ks:List CTree) (b:Nat),qyJ (ks.map fun k=>(hgt k:Int)) b=(max b (qdi ks):Nat)
 | [],b=>by simp[qyJ,qdi]
 | k :: ks,b => by
   unfold qyJ
   rw[List.map_cons,List.foldl_cons,qdi]
   have:=qol ks (max b (hgt k))
   unfold qyJ at this
   rw[show max (b:Int) (hgt k:Int)=((max b (hgt k):Nat):Int) by omega,this]
   omega
theorem qhA (l:List Int) (i j:Nat) (v:Int) (hi:i<l.length):(l.set i v).getD j 0=if j=i then v else l.getD j 0:=by
 rw[List.getD_eq_getElem?_getD,List.getElem?_set]
 by_cases h:i=j
 ·subst h
  simp[hi]
 ·rw[if_neg h,if_neg (fun e=>h e.symm),List.getD_eq_getElem?_getD]
theorem qq0 (i:Nat):∀ (ks:List Int) (j:Nat) (dp:DP),i<dp.1.length→(∀ k∈ks,0≤k∧k<i)→(∀ k∈ks,k.toNat<dp.2.length) →
  ∃ dp',qbx (qr1 i) ks j dp=.ok dp'∧dp'.1.length=dp.1.length∧dp'.2.length=dp.2.length ∧
   (∀ m,dp'.1.getD m 0=if m=i then qyJ (ks.map fun k=>dp.1.getD k.toNat 0) (dp.1.getD i 0) else dp.1.getD m 0)∧(∀ m:Nat,dp'.2.getD m 0=dp.2.getD m 0+(ks.count (m:Int):Nat))
 | [],j,dp,hi,hk,hk2=>⟨dp,rfl,rfl,rfl,fun m=>by by_cases h:m=i<;>simp[h,qyJ],fun m=>by simp⟩
 | k :: ks,j,dp,hi,hk,hk2 => by
   obtain⟨k0,k1⟩:=hk k (by simp)
   have k2:=hk2 k (by simp)
   rw[qbx]
   have hs:qr1 i j dp k=.ok (qcG i k dp):=if_neg (by omega)
   rw[hs]
   dsimp only
   obtain⟨dp',h1,h2,h3,h4,h5⟩:=qq0 i ks (j+1) (qcG i k dp) (by simpa[qcG] using hi) (fun x hx=>hk x (by simp[hx])) (fun x hx=>by simpa[qcG] using hk2 x (by simp[hx]))
   refine⟨dp',h1,by rw[h2];simp[qcG],by rw[h3];simp[qcG],fun m=>?_,fun m=>?_⟩
   ·rw[h4]
    by_cases hm:m=i
    ·rw[if_pos hm,if_pos hm]
     unfold qcG
     dsimp only
     rw[qhA _ _ _ _ hi,if_pos rfl]
     unfold qyJ
     rw[List.map_cons,List.foldl_cons]
     congr 1
     refine List.map_congr_left fun x hx=>?_
     have:=hk x (by simp[hx])
     rw[qhA _ _ _ _ hi,if_neg (by omega)]
    ·rw[if_neg hm,if_neg hm]
     unfold qcG
     dsimp only
     rw[qhA _ _ _ _ hi,if_neg hm]
   ·rw[h5,List.count_cons]
    unfold qcG
    dsimp only
    rw[qhA _ _ _ _ k2]
    by_cases hm:m=k.toNat
    ·rw[if_pos hm,hm]
     have:(k==((k.toNat:Nat):Int))=true:=by simpa using by omega
     rw[if_pos this]
     omega
    ·rw[if_neg hm]
     have:¬ (k==(m:Int))=true:=by simpa using by omega
     rw[if_neg this]
     omega
theorem qqZ (i:Nat):∀ (ks:List Int) (j:Nat) (dp:DP),(∃ k∈ks,¬ (0≤k∧k<i))→qbx (qr1 i) ks j dp=.error ()
 | [],j,dp,h=>by obtain⟨k,hk,_⟩:=h;cases hk
 | k :: ks,j,dp,h => by
   rw[qbx]
   unfold qr1
   by_cases hb:k<0∨(i:Int)≤k
   ·rw[if_pos hb]
   ·rw[if_neg hb]
    dsimp only
    obtain⟨x,hx,hn⟩:=h
    rcases List.mem_cons.1 hx with rfl | hx
    ·omega
    ·have:=qqZ i ks (j+1) (qcG i k dp) ⟨x,hx,hn⟩
     unfold qr1 at this
     exact this
structure RunTree (e:List CExpr) (i:Nat) (dp:DP):Prop where
 l1:dp.1.length=e.length
 l2:dp.2.length=e.length
 deep:∀ m,m<e.length→dp.1.getD m 0=if m<i then (hgt (qaW e m):Int) else 0
 par:∀ m:Nat,dp.2.getD m 0=(((e.take i).flatMap (·.kids)).count (m:Int):Nat)
theorem qwf (e:List CExpr) (hk:qdz e) (i:Nat) (hi:i<e.length) (dp:DP) (h:RunTree e i dp):∃ dp',qkn i dp e[i]=.ok dp'∧RunTree e (i+1) dp':=by
 obtain⟨d,h1,h2,h3,h4,h5⟩:=qq0 i e[i].kids 0 dp (by rw[h.l1];exact hi) (fun k hkm=>hk i hi k hkm) (fun k hkm=>by have:=hk i hi k hkm;rw[h.l2];omega)
 refine⟨_,by unfold qkn;rw[h1],⟨by simp[h2,h.l1],by rw[h3,h.l2],fun m hm=>?_,fun m=>?_⟩⟩
 ·dsimp only
  rw[qhA _ _ _ _ (by rw[h2,h.l1];exact hi),h4,h4]
  by_cases hmi:m=i
  ·rw[if_pos hmi,if_pos rfl,if_pos (by omega),hmi,qc0 e hk i hi,hgt]
   have hd:dp.1.getD i 0=((0:Nat):Int):=by rw[h.deep i hi,if_neg (by omega)];rfl
   rw[hd]
   have hm:(e[i].kids.map fun k=>dp.1.getD k.toNat 0)=((e[i].kids.map fun k=>qaW e k.toNat).map fun k=>(hgt k:Int)):=by
    rw[List.map_map]
    refine List.map_congr_left fun k hkm=>?_
    obtain⟨k0,k1⟩:=hk i hi k hkm
    rw[h.deep k.toNat (by omega),if_pos (by omega)]
    rfl
   rw[hm,qol]
   omega
  ·rw[if_neg hmi,if_neg hmi,h.deep m hm]
   by_cases hlt:m<i
   ·rw[if_pos hlt,if_pos (by omega)]
   ·rw[if_neg hlt,if_neg (by omega)]
 ·dsimp only
  rw[h5,h.par,List.take_succ_eq_append_getElem hi,List.flatMap_append,List.count_append]
  simp
theorem qyS (e:List CExpr) (i:Nat) (hi:i<e.length) (dp:DP) (h:∃ k∈e[i].kids,¬ (0≤k∧k<i)):qkn i dp e[i]=.error ():=by
 unfold qkn
 rw[qqZ i e[i].kids 0 dp h]
theorem qwg (e:List CExpr):RunTree e 0 (List.replicate e.length 0,List.replicate e.length 0):=by
 refine⟨by simp,by simp,fun m hm=>?_,fun m=>?_⟩
 ·rw[if_neg (by omega)]
  simp[List.getD_eq_getElem?_getD,List.getElem?_replicate]
  split<;>rfl
 ·simp[List.getD_eq_getElem?_getD,List.getElem?_replicate]
  split<;>rfl
theorem qzR (e:List CExpr) (hk:qdz e):∃ dp,qil e=.ok dp∧RunTree e e.length dp:=by
 have key:∀ d i dp,i+d=e.length→RunTree e i dp→∃ dp',qbx qkn (e.drop i) i dp=.ok dp'∧RunTree e e.length dp':=by
  intro d
  induction d with
  | zero=>intro i dp h1 h2;rw[Nat.add_zero] at h1;subst h1;rw[List.drop_length];exact⟨dp,rfl,h2⟩
  | succ d ih =>
    intro i dp h1 h2
    have hi:i<e.length:=by omega
    obtain⟨dp',h3,h4⟩:=qwf e hk i hi dp h2
    rw[List.drop_eq_getElem_cons hi,qbx,h3]
    exact ih (i+1) dp' (by omega) h4
 have:=key e.length 0 _ (by omega) (qwg e)
 rwa [List.drop_zero] at this
theorem qyR (e:List CExpr) (hk:¬ qdz e):qil e=.error ():=by
 have key:∀ d i dp,i+d=e.length→(∃ j,∃ hj:j<e.length,i≤j∧∃ k∈e[j].kids,¬ (0≤k∧k<j))→qbx qkn (e.drop i) i dp=.error ():=by
  intro d
  induction d with
  | zero=>intro i dp h1 h2;obtain⟨j,hj,h3,_⟩:=h2;omega
  | succ d ih =>
    intro i dp h1 h2
    have hi:i<e.length:=by omega
    rw[List.drop_eq_getElem_cons hi,qbx]
    obtain⟨j,hj,h3,h4⟩:=h2
    by_cases hij:i=j
    ·subst hij
     rw[qyS e i hi dp h4]
    ·cases hq:qkn i dp e[i] with
     | error u=>rfl
     | ok dp'=>exact ih (i+1) dp' (by omega) ⟨j,hj,by omega,h4⟩
 have:=key e.length 0 (List.replicate e.length 0,List.replicate e.length 0) (by omega) (by
  refine Classical.byContradiction fun hn=>hk fun i hi k hkm=>?_
  refine Classical.byContradiction fun hb=>hn ⟨i,hi,by omega,k,hkm,hb⟩)
 rwa [List.drop_zero] at this
theorem qhj {α:Type} (p:Nat→α→Bool):∀ (xs:List α) (k:Nat),(qaF (fun i a=>if p i a=true then some () else none) xs k).isSome=true↔∃ i,∃ hi:i<xs.length,p (k+i) xs[i]=true
 | [],k=>by simp[qaF]
 | x :: xs,k => by
   rw[qaF]
   cases hp:p k x with
   | true=>simp only[if_true,Option.isSome_some,true_iff];exact⟨0,by simp,by simpa using hp⟩
   | false =>
     simp only[Bool.false_eq_true,if_false]
     rw[qhj p xs (k+1)]
     constructor
     ·rintro ⟨i,hi,h⟩
      exact⟨i+1,by simp;omega,by simpa[show k+(i+1)=k+1+i by omega] using h⟩
     ·rintro ⟨i,hi,h⟩
      cases i with
      | zero=>simp[hp] at h
      | succ i=>exact⟨i,by simpa using hi,by simpa[show k+(i+1)=k+1+i by omega] using h⟩
structure TreeL (e:List CExpr):Prop where
 pos:0<e.length
 ahead:qdz e
 once:∀ m:Nat,m+1<e.length→(e.flatMap (·.kids)).count (m:Int)=1
theorem qfW (e:List CExpr):qfh e=0↔TreeL e∧e.length≤4096∧hgt (qbr e)≤400:=by
 unfold qfh
 by_cases h1:(4096:Int)<e.length
 ·rw[if_pos h1]
  refine⟨fun h=>absurd h (by decide),fun h=>?_⟩
  have:=h.2.1
  omega
 ·rw[if_neg h1]
  by_cases h2:e.length=0
  ·rw[if_pos h2]
   refine⟨fun h=>absurd h (by decide),fun h=>?_⟩
   have:=h.1.pos
   omega
  ·rw[if_neg h2]
   by_cases hk:qdz e
   ·obtain⟨dp,h3,h4⟩:=qzR e hk
    rw[h3]
    dsimp only
    have hdeep:=h4.deep (e.length-1) (by omega)
    rw[if_pos (by omega)] at hdeep
    have hpar:=h4.par
    rw[List.take_length] at hpar
    have hany:(qaF (fun i p=>if qfm e.length i p=true then some () else none) dp.2 0).isSome=true↔¬ ∀ m:Nat,m+1<e.length→(e.flatMap (·.kids)).count (m:Int)=1:=by
     rw[qhj]
     constructor
     ·rintro ⟨i,hi,hb⟩ hall
      have hp:dp.2[i]=((e.flatMap (·.kids)).count (i:Int):Nat):=by
       have:=hpar i
       rw[List.getD_eq_getElem?_getD,List.getElem?_eq_getElem hi] at this
       exact this
      unfold qfm at hb
      rw[Nat.zero_add,hp] at hb
      by_cases hlt:i+1<e.length
      ·rw[hall i hlt] at hb
       have:(i:Int)<(e.length:Int)-1:=by omega
       simp[this] at hb
      ·have hc:(e.flatMap (·.kids)).count (i:Int)=0:=by
        rw[List.count_eq_zero]
        intro hm
        obtain⟨x,hx,hkx⟩:=List.mem_flatMap.1 hm
        obtain⟨j,hj,rfl⟩:=List.getElem_of_mem hx
        have:=hk j hj _ hkx
        omega
       rw[hc] at hb
       have:¬ (i:Int)<(e.length:Int)-1:=by omega
       simp[this] at hb
     ·intro hn
      refine Classical.byContradiction fun hb=>hn fun m hm=>?_
      have hml:m<dp.2.length:=by rw[h4.l2];omega
      have hp:dp.2[m]=((e.flatMap (·.kids)).count (m:Int):Nat):=by
       have:=hpar m
       rw[List.getD_eq_getElem?_getD,List.getElem?_eq_getElem hml] at this
       exact this
      have h5:¬ qfm e.length (0+m) dp.2[m]=true:=fun h=>hb ⟨m,hml,h⟩
      unfold qfm at h5
      rw[Nat.zero_add,hp] at h5
      have:(m:Int)<(e.length:Int)-1:=by omega
      simp[this] at h5
      omega
    by_cases hs:(qaF (fun i p=>if qfm e.length i p=true then some () else none) dp.2 0).isSome=true
    ·rw[if_pos hs]
     exact⟨fun h=>absurd h (by decide),fun h=>absurd h.1.once (hany.1 hs)⟩
    ·rw[if_neg hs,hdeep]
     have honce:=Classical.not_not.1 (fun h=>hs (hany.2 h))
     rw[qe1]
     by_cases hh:(400:Int)<(hgt (qaW e (e.length-1)):Int)
     ·rw[if_pos hh]
      exact⟨fun h=>absurd h (by decide),fun h=>by have:=h.2.2;omega⟩
     ·rw[if_neg hh]
      exact⟨fun _=>⟨⟨by omega,hk,honce⟩,by omega,by omega⟩,fun _=>rfl⟩
   ·rw[qyR e hk]
    show (3:Int)=0↔_
    exact⟨fun h=>absurd h (by decide),fun h=>absurd h.1.ahead hk⟩
def qgK:CTree→Int
 | .mk op _ _ _ _=>op
mutual
def qbG:CTree→List Lab
 | .mk op n binds kids alts=>qbB kids++[⟨op,n,binds,kids.map qgK,alts⟩]
def qbB:List CTree→List Lab
 | []=>[]
 | k::ks=>qbG k++qbB ks
end
mutual
def qaR:CTree→Nat
 | .mk _ _ _ kids _=>qaC kids+1
def qaC:List CTree→Nat
 | []=>0
 | k::ks=>qaR k+qaC ks
end
theorem qfX (t:CTree):0<qaR t:=by cases t;rw[qaR];omega
mutual
theorem qkp:∀ t:CTree,(qbG t).length=qaR t
 | .mk op n binds kids alts=>by rw[qbG,qaR,List.length_append,qlW kids];rfl
theorem qlW:∀ ks:List CTree,(qbB ks).length=qaC ks
 | []=>by rw[qbB,qaC];rfl
 | k::ks=>by rw[qbB,qaC,List.length_append,qkp k,qlW ks]
end
def qbl (e:List CExpr) (p:Nat):List Nat:=match e[p]? with | some x=>x.kids.map Int.toNat | none=>[]
def qr4 (e:List CExpr) (p:Nat):Lab:=match e[p]? with | some x=>qd0 e x | none=>⟨0,0,[],[],[]⟩
theorem qup (e:List CExpr) (hk:qdz e) (k:Int) (h0:0≤k) (h1:k<e.length):qgK (qaW e k.toNat)=qsx e k:=by
 have hi:k.toNat<e.length:=by omega
 rw[qc0 e hk k.toNat hi]
 unfold qsx
 rw[List.getElem?_eq_getElem hi]
 rfl
theorem qf8 {α β:Type} {f g:α→List β}:∀ {l:List α},(∀ x∈l,f x=g x)→l.flatMap f=l.flatMap g
 | [],_=>rfl
 | x::l,h=>by rw[List.flatMap_cons,List.flatMap_cons,h x (by simp),qf8 fun y hy=>h y (by simp[hy])]
theorem qtR (e:List CExpr) (hk:qdz e):∀ (i:Nat),i<e.length→∃ X:List Nat,qbG (qaW e i)=X.map (qr4 e)∧X.Perm (i::X.flatMap (qbl e))∧∀ x∈X,x≤i:=by
 intro i
 induction i using Nat.strongRecOn with
 | ind i ih =>
   intro hi
   have key:∀ ks:List Int,(∀ k∈ks,0≤k∧k<i)→∃ Y:List Nat,qbB (ks.map fun k=>qaW e k.toNat)=Y.map (qr4 e)∧Y.Perm (ks.map Int.toNat++Y.flatMap (qbl e))∧∀ y∈Y,y<i:=by
    intro ks
    induction ks with
    | nil=>intro _;exact⟨[],by rw[List.map_nil,qbB];rfl,.refl _,by simp⟩
    | cons k ks ihk =>
      intro h
      obtain⟨k0,k1⟩:=h k (by simp)
      obtain⟨Y,y1,y2,y3⟩:=ihk fun x hx=>h x (by simp[hx])
      obtain⟨X,x1,x2,x3⟩:=ih k.toNat (by omega) (by omega)
      refine⟨X++Y,by rw[List.map_cons,qbB,x1,y1,List.map_append],?_,fun z hz=>?_⟩
      ·rw[List.flatMap_append,List.map_cons,List.cons_append]
       refine (x2.append y2).trans ?_
       rw[List.cons_append]
       refine List.Perm.cons _ ?_
       rw[← List.append_assoc,← List.append_assoc]
       exact List.perm_append_comm.append_right _
      ·rcases List.mem_append.1 hz with hz | hz
       ·have:=x3 z hz;omega
       ·exact y3 z hz
   obtain⟨Y,y1,y2,y3⟩:=key e[i].kids (hk i hi)
   have hki:qbl e i=e[i].kids.map Int.toNat:=by unfold qbl;rw[List.getElem?_eq_getElem hi]
   have hli:qr4 e i=qd0 e e[i]:=by unfold qr4;rw[List.getElem?_eq_getElem hi]
   refine⟨Y++[i],?_,?_,?_⟩
   ·rw[qc0 e hk i hi,qbG,y1,List.map_append]
    congr 1
    show [_]=[_]
    rw[hli]
    unfold qd0
    rw[List.map_map]
    congr 2
    refine List.map_congr_left fun k hkm=>?_
    obtain⟨k0,k1⟩:=hk i hi k hkm
    exact qup e hk k k0 (by omega)
   ·rw[List.flatMap_append,List.flatMap_cons,List.flatMap_nil,List.append_nil,hki]
    refine List.perm_append_comm.trans ?_
    rw[List.cons_append,List.nil_append]
    exact List.Perm.cons _ (y2.trans List.perm_append_comm)
   ·intro x hx
    rcases List.mem_append.1 hx with hx | hx
    ·have:=y3 x hx;omega
    ·have:=List.mem_singleton.1 hx;omega
theorem qfA (kd:Nat→List Nat) (hk:∀ p,∀ j∈kd p,j<p) (r N:Nat) (X Y:List Nat) (hX:X.Perm (r::X.flatMap kd)) (hY:Y.Perm (r::Y.flatMap kd)) (bX:∀ x∈X,x<N) (bY:∀ y∈Y,y<N) :
  ∀ (d j:Nat),j+d=N→X.count j=Y.count j∧∀ i,j≤i→X.count i=Y.count i:=by
 have split:∀ (Z:List Nat) (j:Nat),(Z.flatMap kd).count j=((Z.filter fun p=>decide (j<p)).flatMap kd).count j:=by
  intro Z j
  induction Z with
  | nil=>rfl
  | cons z Z ih =>
    rw[List.flatMap_cons,List.count_append,ih]
    by_cases h:j<z
    ·rw[List.filter_cons_of_pos (by simpa using h),List.flatMap_cons,List.count_append]
    ·rw[List.filter_cons_of_neg (by simpa using h),List.count_eq_zero.2 (fun hm=>h (hk z j hm)),Nat.zero_add]
 intro d
 induction d with
 | zero =>
   intro j hj
   have h0:∀ i,j≤i→X.count i=Y.count i:=by
    intro i hi
    rw[List.count_eq_zero.2 (fun hm=>by have:=bX i hm;omega),List.count_eq_zero.2 (fun hm=>by have:=bY i hm;omega)]
   exact⟨h0 j (by omega),h0⟩
 | succ d ih =>
   intro j hj
   obtain⟨_,hup⟩:=ih (j+1) (by omega)
   have hj':X.count j=Y.count j:=by
    rw[hX.count_eq,hY.count_eq,List.count_cons,List.count_cons,split X j,split Y j]
    have hp:(X.filter fun p=>decide (j<p)).Perm (Y.filter fun p=>decide (j<p)):=by
     rw[List.perm_iff_count]
     intro i
     by_cases hi:j<i
     ·rw[List.count_filter (by simpa using hi),List.count_filter (by simpa using hi)]
      exact hup i (by omega)
     ·rw[List.count_eq_zero.2 (by simp[hi]),List.count_eq_zero.2 (by simp[hi])]
    rw[(hp.flatMap_right kd).count_eq]
   refine⟨hj',fun i hi=>?_⟩
   by_cases h:i=j
   ·rw[h];exact hj'
   ·exact hup i (by omega)
theorem qd9 (e:List CExpr) (h:TreeL e):(List.range e.length).Perm ((e.length-1)::(List.range e.length).flatMap (qbl e)):=by
 have hflat:(List.range e.length).flatMap (qbl e)=(e.flatMap (·.kids)).map Int.toNat:=by
  have:∀ l:List CExpr,(l.flatMap (·.kids)).map Int.toNat=l.flatMap fun x=>x.kids.map Int.toNat:=by
   intro l
   rw[List.map_flatMap]
  rw[this]
  have h2:e=(List.range e.length).map fun i=>(e[i]?).getD ⟨0,0,[],[],[]⟩:=by
   refine List.ext_getElem (by simp) fun i h1 h2=>?_
   simp[h1]
  conv=>rhs;rw[h2,List.flatMap_map]
  refine qf8 fun i hi=>?_
  have hi:=List.mem_range.1 hi
  unfold qbl
  simp[hi]
 have hkm:∀ k∈e.flatMap (·.kids),0≤k∧k.toNat+1<e.length:=by
  intro k hk
  obtain⟨x,hx,hkx⟩:=List.mem_flatMap.1 hk
  obtain⟨j,hj,rfl⟩:=List.getElem_of_mem hx
  have:=h.ahead j hj k hkx
  omega
 rw[hflat,List.perm_iff_count]
 intro j
 have hc:((e.flatMap (·.kids)).map Int.toNat).count j=(e.flatMap (·.kids)).count (j:Int):=by
  generalize e.flatMap (·.kids)=l at hkm
  induction l with
  | nil=>rfl
  | cons k l ih =>
    rw[List.map_cons,List.count_cons,List.count_cons,ih fun x hx=>hkm x (by simp[hx])]
    have:=(hkm k (by simp)).1
    congr 1
    by_cases hkj:k=(j:Int)
    ·subst hkj;simp
    ·have:¬ k.toNat=j:=by omega
     simp[hkj,this]
 rw[List.count_cons,hc,List.count_range]
 by_cases h1:j+1<e.length
 ·rw[h.once j h1,if_pos (by omega)]
  have:¬ e.length-1=j:=by omega
  simp[this]
 ·have hz:(e.flatMap (·.kids)).count (j:Int)=0:=List.count_eq_zero.2 fun hm=>by have:=(hkm _ hm).2;omega
  rw[hz]
  have:=h.pos
  by_cases h2:e.length-1=j
  ·rw[if_pos (by omega)];simp[h2]
  ·rw[if_neg (by omega)];simp[h2]
theorem qc8 (e:List CExpr) (h:TreeL e):(qbG (qbr e)).Perm (e.map (qd0 e)):=by
 have hpos:=h.pos
 obtain⟨X,x1,x2,x3⟩:=qtR e h.ahead (e.length-1) (by omega)
 have hkd:∀ p,∀ j∈qbl e p,j<p:=by
  intro p j hj
  unfold qbl at hj
  cases hq:e[p]? with
  | none=>rw[hq] at hj;cases hj
  | some x =>
    rw[hq] at hj
    obtain⟨k,hk,rfl⟩:=List.mem_map.1 hj
    obtain⟨hp,rfl⟩:=List.getElem?_eq_some_iff.1 hq
    have:=h.ahead p hp k hk
    omega
 have hperm:X.Perm (List.range e.length):=by
  rw[List.perm_iff_count]
  intro j
  by_cases hj:j<e.length
  ·exact (qfA (qbl e) hkd (e.length-1) e.length X (List.range e.length) x2 (qd9 e h) (fun x hx=>by have:=x3 x hx;omega) (fun y hy=>List.mem_range.1 hy) (e.length-j) j (by omega)).1
  ·rw[List.count_eq_zero.2 (fun hm=>by have:=x3 j hm;omega),List.count_eq_zero.2 (fun hm=>by have:=List.mem_range.1 hm;omega)]
 rw[qe1,x1]
 refine (hperm.map _).trans ?_
 have:(List.range e.length).map (qr4 e)=e.map (qd0 e):=by
  refine List.ext_getElem (by simp) fun i h1 h2=>?_
  simp only[List.getElem_map,List.getElem_range]
  unfold qr4
  rw[List.getElem?_eq_getElem (by simpa using h1)]
 rw[this]
theorem qgu (e:List CExpr) (h:TreeL e):qaR (qbr e)=e.length:=by
 rw[← qkp,(qc8 e h).length_eq,List.length_map]
def qbo:List CTree→Nat→List Int
 | [],_=>[]
 | k::ks,b=>((b+qaR k-1:Nat):Int)::qbo ks (b+qaR k)
mutual
def qeg:CTree→Nat→List CExpr
 | .mk op n binds kids alts,b=>qbq kids b++[⟨op,n,binds,qbo kids b,alts⟩]
def qbq:List CTree→Nat→List CExpr
 | [],_=>[]
 | k::ks,b=>qeg k b++qbq ks (b+qaR k)
end
def qa6 (t:CTree):List CExpr:=qeg t 0
mutual
def qps:CTree→List CTree
 | .mk op n binds kids alts=>qfr kids++[.mk op n binds kids alts]
def qfr:List CTree→List CTree
 | []=>[]
 | k::ks=>qps k++qfr ks
end
mutual
theorem qcV:∀ (t:CTree) (b:Nat),(qeg t b).length=qaR t
 | .mk op n binds kids alts,b=>by rw[qeg,qaR,List.length_append,qhJ kids b];rfl
theorem qhJ:∀ (ks:List CTree) (b:Nat),(qbq ks b).length=qaC ks
 | [],b=>by rw[qbq,qaC];rfl
 | k::ks,b=>by rw[qbq,qaC,List.length_append,qcV k,qhJ ks]
end
mutual
theorem qm9:∀ t:CTree,(qps t).length=qaR t
 | .mk op n binds kids alts=>by rw[qps,qaR,List.length_append,qkF kids];rfl
theorem qkF:∀ ks:List CTree,(qfr ks).length=qaC ks
 | []=>by rw[qfr,qaC];rfl
 | k::ks=>by rw[qfr,qaC,List.length_append,qm9 k,qkF ks]
end
theorem qo3 (t:CTree) (ts zs:List CTree):(ts++qps t++zs).getD (ts.length+qaR t-1) .none=t:=by
 cases t with
 | mk op n binds kids alts =>
   have h:=qkF kids
   rw[qps,qaR,List.getD_eq_getElem?_getD,List.append_assoc,List.getElem?_append_right (by omega),List.append_assoc,List.getElem?_append_right (by omega),List.cons_append,List.nil_append]
   rw[show ts.length+(qaC kids+1)-1-ts.length-(qfr kids).length=0 by omega]
   rfl
theorem qma:∀ (ks ts zs:List CTree),(qbo ks ts.length).map (fun k=>(ts++qfr ks++zs).getD k.toNat .none)=ks
 | [],ts,zs=>rfl
 | k :: ks,ts,zs => by
   rw[qbo,List.map_cons,qfr]
   congr 1
   ·have:=qo3 k ts (qfr ks++zs)
    rw[← List.append_assoc] at this
    rw[← List.append_assoc]
    exact this
   ·have:=qma ks (ts++qps k) zs
    rw[List.length_append,qm9] at this
    rw[← List.append_assoc]
    exact this
mutual
theorem qnT:∀ (t:CTree) (ts:List CTree),(qeg t ts.length).foldl qdE ts=ts++qps t
 | .mk op n binds kids alts,ts => by
   rw[qeg,List.foldl_append,qlH kids ts,List.foldl_cons,List.foldl_nil,qps,← List.append_assoc]
   unfold qdE
   dsimp only
   have:=qma kids ts []
   rw[List.append_nil] at this
   rw[this]
theorem qlH:∀ (ks:List CTree) (ts:List CTree),(qbq ks ts.length).foldl qdE ts=ts++qfr ks
 | [],ts=>by rw[qbq,qfr,List.append_nil];rfl
 | k :: ks,ts => by
   rw[qbq,List.foldl_append,qnT k ts]
   have:=qlH ks (ts++qps k)
   rw[List.length_append,qm9] at this
   rw[this,qfr,List.append_assoc]
end
theorem qcK (t:CTree):qbr (qa6 t)=t:=by
 unfold qbr qdv qa6
 have h:=qnT t []
 rw[List.length_nil] at h
 rw[h,qcV]
 have:=qo3 t [] []
 rw[List.append_nil,List.length_nil,Nat.zero_add] at this
 exact this
def AheadB (b:Nat) (l:List CExpr):Prop:=∀ (i:Nat) (hi:i<l.length),∀ k∈l[i].kids,0≤k∧k<b+i
theorem AheadB.append {b:Nat} {l m:List CExpr} (h1:AheadB b l) (h2:AheadB (b+l.length) m):AheadB b (l++m):=by
 intro i hi k hk
 by_cases h:i<l.length
 ·rw[List.getElem_append_left h] at hk
  exact h1 i h k hk
 ·rw[List.getElem_append_right (by omega)] at hk
  rw[List.length_append] at hi
  have:=h2 (i-l.length) (by omega) k hk
  omega
theorem qkC:∀ (ks:List CTree) (b:Nat),∀ k∈qbo ks b,0≤k∧k<b+qaC ks
 | [],b,k,h=>by cases h
 | t :: ks,b,k,h => by
   have hp:=qfX t
   rw[qbo] at h
   rw[qaC]
   rcases List.mem_cons.1 h with rfl | h
   ·omega
   ·have:=qkC ks (b+qaR t) k h
    omega
mutual
theorem qlk:∀ (t:CTree) (b:Nat),AheadB b (qeg t b)
 | .mk op n binds kids alts,b => by
   rw[qeg]
   refine (qjr kids b).append ?_
   intro i hi k hk
   rw[List.length_singleton] at hi
   have hi0:i=0:=by omega
   subst hi0
   have:=qkC kids b k hk
   rw[qhJ]
   omega
theorem qjr:∀ (ks:List CTree) (b:Nat),AheadB b (qbq ks b)
 | [],b=>by rw[qbq];intro i hi;simp at hi
 | k :: ks,b => by
   rw[qbq]
   refine (qlk k b).append ?_
   rw[qcV]
   exact qjr ks (b+qaR k)
end
theorem qp4 (b n:Nat):List.range' b (n+1)=List.range' b n++[b+n]:=by
 rw[← List.range'_append_1 (s:=b) (m:=n) (n:=1)]
 rfl
mutual
theorem qn8:∀ (t:CTree) (b:Nat),(((b+qaR t-1:Nat):Int)::(qeg t b).flatMap (·.kids)).Perm ((List.range' b (qaR t)).map Int.ofNat)
 | .mk op n binds kids alts,b => by
   have h:=qlP kids b
   rw[qeg,qaR,List.flatMap_append,List.flatMap_cons,List.flatMap_nil,List.append_nil,qp4,List.map_append]
   refine (List.Perm.cons _ (List.perm_append_comm.trans h)).trans ?_
   rw[show b+(qaC kids+1)-1=b+qaC kids by omega]
   exact List.perm_append_comm (l₁:=[_])
theorem qlP:∀ (ks:List CTree) (b:Nat),(qbo ks b++(qbq ks b).flatMap (·.kids)).Perm ((List.range' b (qaC ks)).map Int.ofNat)
 | [],b=>by rw[qbq,qaC,qbo];exact .refl _
 | k :: ks,b => by
   have h1:=qn8 k b
   have h2:=qlP ks (b+qaR k)
   rw[qbo,qbq,qaC,List.flatMap_append,← List.range'_append_1,List.map_append]
   refine List.Perm.trans ?_ (h1.append h2)
   rw[List.cons_append,List.cons_append]
   refine List.Perm.cons _ ?_
   rw[← List.append_assoc,← List.append_assoc]
   exact List.perm_append_comm.append_right _
end
theorem qkK (t:CTree):TreeL (qa6 t):=by
 refine⟨by unfold qa6;rw[qcV];exact qfX t,?_,?_⟩
 ·intro i hi k hk
  have:=qlk t 0 i hi k hk
  omega
 ·intro m hm
  unfold qa6 at hm ⊢
  rw[qcV] at hm
  have h:=(qn8 t 0).count_eq (m:Int)
  rw[List.count_cons] at h
  have h1:((List.range' 0 (qaR t)).map Int.ofNat).count (m:Int)=1:=by
   have:∀ l:List Nat,(l.map Int.ofNat).count (m:Int)=l.count m:=by
    intro l
    induction l with
    | nil=>rfl
    | cons x l ih =>
      rw[List.map_cons,List.count_cons,List.count_cons,ih]
      congr 1
      by_cases hx:x=m
      ·subst hx;simp
      ·have h3:¬ (x:Int)=(m:Int):=by omega
       simp[hx,h3]
   rw[this,← List.range_eq_range',List.count_range,if_pos (by omega)]
  rw[h1] at h
  have h2:¬ (((0+qaR t-1:Nat):Int)==(m:Int))=true:=by simp;omega
  rw[if_neg h2] at h
  exact h
end Go.Abs
