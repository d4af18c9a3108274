/-
  PARTS OF A PROOF, joined: an abstract machine for quiet code, its evaluation, and what the seat's functions answer on it. Conditions: none.
-/
import Derived.Test.YtpchghpipgpkfaaDoorRwL
import Derived.Test.YtpchghpipgpkfaaDoorHF
import Derived.Test.YtpchghpipgpkfaaDoorD
import Derived.Test.YtpchghpipgpkfaaDoorZ
set_option linter.unusedVariables false
set_option linter.unusedSimpArgs false
set_option maxRecDepth 100000
set_option maxHeartbeats 4000000
namespace Go.Abs
theorem qmB (id:Int) {v b:CTree} (hv:TFit v) (hb:TFit b):TFit (qpr id v b) :=
 .mk _ _ _ _ _ (by simp) (by simp) (by simp) fun k hk=>by
  rcases List.mem_cons.1 hk with rfl | hk
  ·exact hv
  ·rw[List.mem_singleton.1 hk];exact hb
theorem qjh (id:Int) (v b:CTree):qaR (qpr id v b)=qaR v+qaR b+1:=by
 unfold qpr
 rw[qaR,qaC,qaC,qaC]
 omega
theorem qmF (id:Int) (v b:CTree):hgt (qpr id v b)=max (hgt v) (hgt b)+1:=by
 unfold qpr
 rw[hgt,qdi,qdi,qdi]
 omega
theorem qtK:∀ (ids:List Int) (vs:List CTree) (b:CTree),(∀ v∈vs,TFit v)→TFit b→TFit (qfq ids vs b)∧qaR (qfq ids vs b)≤qaR b+qaC vs+ids.length∧hgt (qfq ids vs b)≤max (qdi vs) (hgt b)+ids.length
 | [],vs,b,_,hb => by
   have:qfq [] vs b=b:=by cases vs<;>rfl
   rw[this]
   exact⟨hb,by omega,by omega⟩
 | id :: ids,[],b,_,hb => by
   have:qfq (id::ids) [] b=b:=rfl
   rw[this]
   exact⟨hb,by rw[List.length_cons];omega,by omega⟩
 | id :: ids,v :: vs,b,hv,hb => by
   obtain⟨h1,h2,h3⟩:=qtK ids vs b (fun x hx=>hv x (by simp[hx])) hb
   rw[qfq]
   refine⟨qmB id (hv v (by simp)) h1,?_,?_⟩
   ·rw[qjh,qaC,List.length_cons];omega
   ·rw[qmF,qdi,List.length_cons];omega
mutual
theorem qna (id:Int) (A:CTree) (hA:TFit A):∀ b:CTree,TFit b→ShT b→TFit (qfn id A b)∧qaR (qfn id A b)≤qaR b+qiU id b*qaR A∧hgt (qfn id A b)≤hgt b+hgt A
 | .mk op n binds kids alts,hb,hs => by
   cases hb with
   | mk _ _ _ _ _ h1 h2 h3 h4 =>
   cases hs with
   | mk _ _ _ _ _ hsh hsk =>
   rw[qfn]
   by_cases hc:op=0∧n=id
   ·rw[if_pos hc]
    refine⟨hA,?_,by omega⟩
    rw[qiU,if_pos hc.1,if_pos hc.2]
    omega
   ·rw[if_neg hc]
    obtain⟨g1,g2,g3⟩:=qo5 id A hA kids h4 hsk
    have hl:(qdd id A kids).length=kids.length:=by rw[qik,List.length_map]
    refine⟨.mk _ _ _ _ _ h1 (by omega) h3 g1,?_,?_⟩
    ·rw[qaR,qaR,qiU]
     by_cases h0:op=0
     ·have hk0:kids=[]:=List.length_eq_zero_iff.1 (qoV (h0 ▸ hsh))
      subst hk0
      rw[qdd,qaC]
      omega
     ·rw[if_neg h0]
      omega
    ·rw[hgt,hgt]
     omega
theorem qo5 (id:Int) (A:CTree) (hA:TFit A):∀ ks:List CTree,(∀ k∈ks,TFit k)→(∀ k∈ks,ShT k)→(∀ k∈qdd id A ks,TFit k)∧qaC (qdd id A ks)≤qaC ks+qfO id ks*qaR A∧qdi (qdd id A ks)≤qdi ks+hgt A
 | [],_,_ => by
   refine⟨fun k hk=>(by rw[qdd] at hk;cases hk),?_,?_⟩
   ·rw[qdd,qaC];omega
   ·rw[qdd,qdi];omega
 | k :: ks,hf,hs => by
   obtain⟨h1,h2,h3⟩:=qna id A hA k (hf k (by simp)) (hs k (by simp))
   obtain⟨g1,g2,g3⟩:=qo5 id A hA ks (fun x hx=>hf x (by simp[hx])) (fun x hx=>hs x (by simp[hx]))
   rw[qdd]
   refine⟨fun x hx=>?_,?_,?_⟩
   ·rcases List.mem_cons.1 hx with rfl | hx
    ·exact h1
    ·exact g1 x hx
   ·rw[qaC,qaC,qfO,Nat.add_mul];omega
   ·rw[qdi,qdi];omega
end
theorem qlF {op n:Int} {binds:List Int} {kids:List CTree} {alts:List CAlt} (h:TGood (.mk op n binds kids alts)):binds.length≤16∧∀ a∈alts,a.binds.length≤16:=by
 have hl:=h.lab ⟨op,n,binds,kids.map qgK,alts⟩ (by rw[qbG];simp)
 obtain⟨_,h2⟩:=qcl hl
 have hf:=qe8 h2
 obtain⟨f1,f2⟩:=qhg alts (binds.length:Int)
 exact⟨by have:=f1;dsimp only at hf;omega,fun a ha=>by have:=f2 a ha;dsimp only at hf;omega⟩
def qwu (t t':CTree):Prop:=TFit t'∧qaR t'≤20000∧hgt t'≤hgt t+420
theorem qmA {op n:Int} {binds:List Int} {kids:List CTree} {alts:List CAlt} (h:TGood (.mk op n binds kids alts)) {k:CTree} (hk:k∈kids):qwu (.mk op n binds kids alts) k:=by
 have g:=h.kid hk
 exact⟨g.fit,by have:=g.size;omega,by have:=g.deep;omega⟩
theorem qti (t:CTree) (op n:Int):qwu t (.mk op n [] [] []) :=
 ⟨.mk _ _ _ _ _ (by simp) (by simp) (by simp) (fun k hk=>by cases hk),by rw[qaR,qaC];omega,by rw[hgt,qdi];omega⟩
theorem qix (n:Int):∀ (rb:List Int) (rk:List CTree) {t':CTree},qeP n rb rk=some t'→t'∈rk
 | [],rk,t',h=>by cases rk<;>cases h
 | l::rb,[],t',h=>by cases h
 | l :: rb,k :: rk,t',h => by
   rw[qeP] at h
   split at h
   ·injection h with h
    rw[h]
    simp
   ·exact List.mem_cons_of_mem _ (qix n rb rk h)
theorem qhe (cn:Int) (ck:List CTree) (c:CTree):∀ (as:List CAlt) (bs:List CTree) {t':CTree},qb1 cn ck c as bs=some t'→(∃ a∈as,∃ b∈bs,a.binds.length=ck.length∧t'=qfq a.binds ck b)∨t'∈bs
 | [],bs,t',h=>by cases bs<;>cases h
 | a::as,[],t',h=>by cases h
 | a :: as,b :: bs,t',h => by
   rw[qb1] at h
   split at h
   ·split at h
    ·cases h
    ·rename_i hl
     injection h with h
     exact .inl ⟨a,by simp,b,by simp,by simpa using hl,h.symm⟩
   ·split at h
    ·injection h with h
     exact .inr (by rw[h];simp)
    ·rcases qhe cn ck c as bs h with ⟨a',h1,b',h2,h3⟩ | h1
     ·exact .inl ⟨a',by simp[h1],b',by simp[h2],h3⟩
     ·exact .inr (by simp[h1])
theorem qnN {t b:CTree} {ids:List Int} {vs:List CTree} (hi:ids.length≤16) (hv:∀ v∈vs,TFit v) (hb:TFit b) (hs:qaC vs+qaR b≤10000) (h1:qdi vs≤hgt t) (h2:hgt b≤hgt t):qwu t (qfq ids vs b):=by
 obtain⟨g1,g2,g3⟩:=qtK ids vs b hv hb
 exact⟨g1,by omega,by omega⟩
theorem qob (rule n:Int) (binds:List Int) (kids:List CTree) (alts:List CAlt) (hg:TGood (.mk 4 n binds kids alts)) {t':CTree} (h:qhH rule (.mk 4 n binds kids alts)=some t'):qwu (.mk 4 n binds kids alts) t':=by
 obtain⟨sk,sb,_,_⟩:=qdr hg.shape rfl
 obtain⟨v,body,rfl⟩:=qk4 sk
 obtain⟨id,rfl⟩:=qmN sb
 have gv:=hg.kid (k:=v) (by simp)
 have gb:=hg.kid (k:=body) (by simp)
 have hsz:=hg.size
 have hh:hgt (.mk 4 n [id] [v,body] alts)=max (hgt v) (hgt body)+1:=by rw[hgt,qdi,qdi,qdi];omega
 have hs:qaR (.mk 4 n [id] [v,body] alts)=qaR v+qaR body+1:=by rw[qaR,qaC,qaC,qaC];omega
 rw[hs] at hsz
 have hdeep:=hg.deep
 rw[hh] at hdeep
 have hocc:=qtU id body
 obtain⟨vo,vn,vb,vk,va⟩:=v
 rw[qkd] at h
 split at h
 ·rename_i hc
  injection h with h
  subst h
  obtain⟨e1,e2,e3⟩:=qln hc.2 gv.shape
  subst e1 e2 e3
  obtain⟨g1,g2,g3⟩:=qna id _ gv.fit body gb.fit gb.sh
  have e1:qaR (.mk vo vn [] [] [])=1:=by rw[qaR,qaC]
  have e2:hgt (.mk vo vn [] [] [])=1:=by rw[hgt,qdi]
  rw[e1] at g2
  rw[e2] at g3
  exact⟨g1,by omega,by rw[hh];omega⟩
 ·split at h
  ·injection h with h
   subst h
   exact qmA hg (by simp)
  ·split at h
   ·rename_i hc
    injection h with h
    subst h
    obtain⟨_,rfl⟩:=hc
    obtain⟨sk,_⟩:=qdr gv.shape rfl
    obtain⟨k0,k1,rfl⟩:=qk4 sk
    have g0:=gv.kid (k:=k0) (by simp)
    have g1:=gv.kid (k:=k1) (by simp)
    have hv1:qaR (.mk 4 vn vb [k0,k1] va)=qaR k0+qaR k1+1:=by rw[qaR,qaC,qaC,qaC];omega
    have hv2:hgt (.mk 4 vn vb [k0,k1] va)=max (hgt k0) (hgt k1)+1:=by rw[hgt,qdi,qdi,qdi];omega
    show qwu _ (qpr _ k0 (qpr id k1 body))
    refine⟨qmB _ g0.fit (qmB _ g1.fit gb.fit),?_,?_⟩
    ·rw[qjh,qjh];omega
    ·rw[qmF,qmF,hh];omega
   ·split at h
    ·rename_i hc
     injection h with h
     subst h
     obtain⟨_,rfl,hone⟩:=hc
     have sk:=(qeE gv.shape).1 (.inl rfl)
     rw[hone] at sk
     obtain⟨k0,k1,rfl⟩:=qk4 sk
     have g0:=gv.kid (k:=k0) (by simp)
     have g1:=gv.kid (k:=k1) (by simp)
     have hv1:qaR (.mk 7 vn vb [k0,k1] va)=qaR k0+qaR k1+1:=by rw[qaR,qaC,qaC,qaC];omega
     have hv2:hgt (.mk 7 vn vb [k0,k1] va)=max (hgt k0) (hgt k1)+1:=by rw[hgt,qdi,qdi,qdi];omega
     show qwu _ (.mk 7 0 [] [k0,qpr id k1 body] va)
     refine⟨.mk _ _ _ _ _ ?_ (by simp) (by omega) fun k hk=>?_,?_,?_⟩
     ·have:=gv.fit
      cases this with
      | mk _ _ _ _ _ hb _ _ _=>rw[List.length_append] at hb;rw[List.nil_append];omega
     ·rcases List.mem_cons.1 hk with rfl | hk
      ·exact g0.fit
      ·rw[List.mem_singleton.1 hk]
       exact qmB _ g1.fit gb.fit
     ·rw[qaR,qaC,qaC,qaC,qjh];omega
     ·rw[hgt,qdi,qdi,qdi,qmF,hh];omega
    ·split at h
     ·rename_i hc
      injection h with h
      subst h
      obtain⟨g1,g2,g3⟩:=qna id _ gv.fit body gb.fit gb.sh
      rw[hc.2.2,Nat.one_mul] at g2
      exact⟨g1,by omega,by have:=gv.deep;rw[hh];omega⟩
     ·cases h
theorem qrF (t:CTree) (n a b:Int) {t':CTree} (h:qiq n a b=some t'):qwu t t':=by
 unfold qiq at h
 repeat' (first | (injection h with h;subst h;exact qti t _ _) | (cases h;done) | split at h)
theorem qrn (rule N:Int) (t:CTree) (hg:TGood t) {t':CTree} (h:qwd rule N t=some t'):qwu t t':=by
 obtain⟨op,n,binds,kids,alts⟩:=t
 rw[qwd] at h
 have hsh:=hg.shape
 have hsz:=hg.size
 have hdp:=hg.deep
 split at h
 ·cases h
 split at h
 ·rename_i hc
  obtain⟨_,rfl,h2,h3⟩:=hc
  have hkpos:0<kids.length:=(qeF hsh).2.1 (by simp)
  obtain⟨k0,ks,rfl⟩:∃ k0 ks,kids=k0::ks:=by
   cases kids with
   | nil=>simp at hkpos
   | cons a l=>exact⟨a,l,rfl⟩
  have g0:=hg.kid (k:=k0) (by simp)
  obtain⟨o0,n0,b0,kk0,a0⟩:=k0
  have h2:o0=2:=h2
  subst h2
  have hk1:=(qeF g0.shape).1 rfl
  obtain⟨kb,rfl⟩:=qmN hk1
  have gb:=g0.kid (k:=kb) (by simp)
  have h:some (qfq b0 ks kb)=some t':=h
  injection h with h
  subst h
  have hb16:=(qlF g0).1
  rw[qaR,qaC] at hsz
  have hkb:qaR (.mk 2 n0 b0 [kb] a0)=qaR kb+1:=by rw[qaR,qaC,qaC];first | done | omega
  have hkh:hgt (.mk 2 n0 b0 [kb] a0)=hgt kb+1:=by rw[hgt,qdi,qdi];first | done | omega
  have hh:hgt (.mk 3 n binds (.mk 2 n0 b0 [kb] a0::ks) alts)=max (hgt kb+1) (qdi ks)+1:=by rw[hgt,qdi,hkh]
  exact qnN hb16 (fun v hv=>(hg.kid (k:=v) (by simp[hv])).fit) gb.fit (by omega) (by rw[hh];omega) (by rw[hh];omega)
 split at h
 ·rename_i hc
  subst hc
  exact qob rule n binds kids alts hg h
 split at h
 ·rename_i hc
  injection h with h
  subst h
  have:=qeG hsh hc.2.1
  refine qmA hg ?_
  rw[List.getD_eq_getElem?_getD,List.getElem?_eq_getElem (by omega)]
  exact List.getElem_mem _
 split at h
 ·rename_i hc
  obtain⟨_,rfl,h2⟩:=hc
  have hka:=(qeE hsh).1 (.inl rfl)
  obtain⟨k0,ks,rfl⟩:∃ k0 ks,kids=k0::ks:=by
   cases kids with
   | nil=>simp at hka
   | cons a l=>exact⟨a,l,rfl⟩
  have g0:=hg.kid (k:=k0) (by simp)
  obtain⟨o0,n0,b0,kk0,a0⟩:=k0
  rw[qlt] at h
  rcases qhe _ _ _ _ _ h with ⟨a,h1,b,h3,h4,rfl⟩ | h1
  ·have gb:=hg.kid (k:=b) (by simp[h3])
   have hb16:=(qlF hg).2 a h1
   have hsb:=qmh h3
   have hhb:=qd7 h3
   rw[qaR,qaC] at hsz
   have e1:qaR (.mk o0 n0 b0 kk0 a0)=qaC kk0+1:=by rw[qaR]
   have e2:hgt (.mk o0 n0 b0 kk0 a0)=qdi kk0+1:=by rw[hgt]
   have hh:hgt (.mk 7 n binds (.mk o0 n0 b0 kk0 a0::ks) alts)=max (qdi kk0+1) (qdi ks)+1:=by rw[hgt,qdi,e2]
   exact qnN hb16 (fun v hv=>(g0.kid hv).fit) gb.fit (by omega) (by rw[hh];omega) (by rw[hh];omega)
  ·exact qmA hg (by simp[h1])
 split at h
 ·rename_i hc
  obtain⟨k0,k1,rfl⟩:=qk4 hc.2.2
  obtain⟨o0,a,b0,kk0,a0⟩:=k0
  obtain⟨o1,b,b1,kk1,a1⟩:=k1
  rw[qnt] at h
  split at h
  ·cases h
  ·exact qrF _ n a b h
 split at h
 ·rename_i hc
  obtain⟨_,rfl⟩:=hc
  obtain⟨k0,rfl⟩:=qmN (qoU hsh)
  have g0:=hg.kid (k:=k0) (by simp)
  obtain⟨ro,rn,rb,rk,ra⟩:=k0
  rw[qnL] at h
  split at h
  ·cases h
  ·have hm:=qix _ _ _ h
   have gk:=g0.kid hm
   have:=qd7 hm
   have hh:hgt (.mk 10 n binds [.mk ro rn rb rk ra] alts)=qdi rk+1+1:=by rw[hgt,qdi,qdi,hgt];omega
   exact⟨gk.fit,by have:=gk.size;omega,by have:=gk.deep;omega⟩
 ·cases h
theorem qm3 {e:List CExpr} (hA:qdz e) (i:Nat) (hi:i<e.length) (t':CTree) (hf:TFit t') (d:Nat) (hd:hgt t'≤hgt (qaW e i)+d) (hfe:∀ k,k<e.length→TFit (qaW e k)) :
  ∀ k,k<e.length→TFit (qct e i t' k)∧qaR (qct e i t' k)≤qaR (qaW e k)*qaR t'∧hgt (qct e i t' k)≤hgt (qaW e k)+d:=by
 intro k
 induction k using Nat.strongRecOn with
 | ind k ih =>
   intro hk
   have hpos:=qfX t'
   rw[qky e hA i t' k hk]
   by_cases hki:k=i
   ·rw[if_pos hki]
    subst hki
    refine⟨hf,?_,hd⟩
    have:=qfX (qaW e k)
    exact Nat.le_mul_of_pos_left _ this
   ·rw[if_neg hki]
    have h1:=hfe k hk
    rw[qc0 e hA k hk] at h1 ⊢
    cases h1 with
    | mk _ _ _ _ _ b1 b2 b3 b4 =>
    have hkid:∀ q∈e[k].kids,q.toNat<k:=fun q hq=>by have:=hA k hk q hq;omega
    have key:∀ l:List Int,(∀ q∈l,q.toNat<k)→(∀ x∈l.map fun q=>qct e i t' q.toNat,TFit x)∧qaC (l.map fun q=>qct e i t' q.toNat)≤qaC (l.map fun q=>qaW e q.toNat)*qaR t'∧qdi (l.map fun q=>qct e i t' q.toNat)≤qdi (l.map fun q=>qaW e q.toNat)+d:=by
     intro l
     induction l with
     | nil =>
       intro _
       refine⟨fun x hx=>(by cases hx),?_,?_⟩
       ·rw[List.map_nil,List.map_nil,qaC];omega
       ·rw[List.map_nil,List.map_nil,qdi];omega
     | cons q l ih2 =>
       intro hq
       obtain⟨g1,g2,g3⟩:=ih q.toNat (hq q (by simp)) (by have:=hq q (by simp);omega)
       obtain⟨j1,j2,j3⟩:=ih2 fun x hx=>hq x (by simp[hx])
       rw[List.map_cons,List.map_cons]
       refine⟨fun x hx=>?_,?_,?_⟩
       ·rcases List.mem_cons.1 hx with rfl | hx
        ·exact g1
        ·exact j1 x hx
       ·rw[qaC,qaC,Nat.add_mul];omega
       ·rw[qdi,qdi];omega
    obtain⟨j1,j2,j3⟩:=key e[k].kids hkid
    refine⟨.mk _ _ _ _ _ b1 (by rw[List.length_map] at b2 ⊢;exact b2) b3 j1,?_,?_⟩
    ·rw[qaR,qaR,Nat.add_mul,Nat.one_mul];omega
    ·rw[hgt,hgt];omega
theorem qzS (t:CTree):(∀ l∈qbG t,qbM false l=0)→ShT t:=by
 induction t using CTree.ind with
 | h op n binds kids alts ih =>
   intro hl
   rw[qbG] at hl
   have h1:=qtG (hl ⟨op,n,binds,kids.map qgK,alts⟩ (by simp))
   dsimp only at h1
   rw[List.length_map] at h1
   exact .mk _ _ _ _ _ h1 fun k hk=>ih k hk fun l hm=>hl l (List.mem_append_left _ (qko hk l hm))
theorem qgX {e:List CExpr} (hz:qaO e=0) (hf:∀ x∈e,NodeFit x) (k:Nat) (hk:k<e.length):TGood (qaW e k):=by
 have hT:=(qbc hz).1
 have h:=quD (qwR hz) (qwP hT k hk)
 exact⟨qfU hz hf k hk,qzS _ h.lab,h.deep,h.size,h.lab⟩
end Go.Abs
set_option maxHeartbeats 8000000
namespace Go.Abs
def qcN (e:List CExpr) (i:Nat):Option CTree→List CExpr × Int
 | none=>([],12)
 | some t'=>if qaO (qa6 (qct e i t' (e.length-1)))=0 then (qa6 (qct e i t' (e.length-1)),0) else ([],2)
def qdt (e:List CExpr) (rule at' N:Int):List CExpr × Int :=
 if qaO e=0 then (if rule<1∨12<rule then ([],4) else if at'<0∨(e.length:Int)≤at' then ([],12) else qcN e at'.toNat (qwd rule N (qaW e at'.toNat))) else ([],qaO e)
theorem quO {H:Heap} {S:Nat→Prop} {w r:Nat} {a:AVal} {T:CTree} (hw:H[w]? = some (.box [a,qau r])) (ha:leaf a=true) (hT:WS H S T r) (hh:hgt T≤900):viewV H (.ptr (some (w,0)))=.vptr [qaU H 1999 a,qao T] 0:=by
 unfold viewV
 rw[show (2000:Nat)=1999+1 from rfl,qaU,if_neg (by simp[qaB])]
 unfold qcz
 dsimp only
 rw[hw]
 dsimp only
 rw[if_pos (by rw[List.all_cons,ha];rfl),List.map_cons,List.map_cons,List.map_nil,hT.view 1999 (by omega)]
section
variable {L:Lib} (hR:RLib L)
include hR
theorem qu1 (e:List CExpr) (hl:e.length<2 ^ 30) (hf:∀ x∈e,NodeFit x) (rule at' N:Int) (hr:rule≠10∧rule≠12) (h:Heap) :
  pcall L 283 [.list (e.map qal) none,.agg [.int .i64 rule,.int .i64 at',.int .i64 N]] h=some (.val (.tuple [.list ((qdt e rule at' N).1.map qal) none,.int .i64 (qdt e rule at' N).2]),h):=by
 have hL:=hR.plain
 have hp:=hL.pure
 have hdE:=qaD e
 have hck:=qd3 hR.toCLib e hl hf
 refine qaV hL hR.f283 (by simp only[qaB,qaw,qaD,Bool.and_self]) ?_ h
 unfold qdt
 by_cases hz:qaO e=0
 case neg =>
  have hne:(qaO e != 0)=true:=by simpa using hz
  rw[if_neg hz]
  dsimp only
  generalize qaO e=r at *
  unfold fn283
  simp -implicitDefEqProofs only[ev_,aOp,opd,qaa,qaA,qaz,qab,qap,qac,qaf,qaj,↓reduceIte,reduceCtorEq,Nat.reduceEqDiff,qav,qak,hck,hne,hdE,qam L hp,hp,List.map_nil]
 rw[if_pos hz]
 rw[hz] at hck
 by_cases hr1:rule<1
 ·rw[if_pos (.inl hr1)]
  unfold fn283
  simp -implicitDefEqProofs only[ev_,aOp,opd,qaa,qaA,qaz,qab,qae,qag,qai,qap,qac,qaf,qaj,↓reduceIte,reduceCtorEq,Nat.reduceEqDiff,qav,qak,hck,hr1,hdE,qam L hp,hp,List.map_nil,bne]
 by_cases hr2:12<rule
 ·rw[if_pos (.inr hr2)]
  unfold fn283
  simp -implicitDefEqProofs only[ev_,aOp,opd,qaa,qaA,qaz,qab,qae,qag,qai,qap,qac,qaf,qaj,↓reduceIte,reduceCtorEq,Nat.reduceEqDiff,gt_iff_lt,qav,qak,hck,hr1,hr2,hdE,qam L hp,hp,List.map_nil,bne]
 rw[if_neg (by omega)]
 by_cases ha1:at'<0
 ·rw[if_pos (.inl ha1)]
  unfold fn283
  simp -implicitDefEqProofs only[ev_,aOp,opd,qaa,qaA,qaz,qab,qae,qag,qai,qap,qac,qaf,qaj,↓reduceIte,reduceCtorEq,Nat.reduceEqDiff,gt_iff_lt,qav,qak,hck,hr1,hr2,ha1,hdE,qam L hp,hp,List.map_nil,bne]
 by_cases ha2:(e.length:Int)≤at'
 ·rw[if_pos (.inr ha2)]
  unfold fn283
  simp -implicitDefEqProofs only[ev_,aOp,opd,qaa,qaA,qa7,qaz,qab,qae,qag,qai,qap,qac,qaf,qaj,↓reduceIte,reduceCtorEq,Nat.reduceEqDiff,ge_iff_le,gt_iff_lt,qav,qak,hck,hr1,hr2,ha1,ha2,hdE,qam L hp,hp,List.map_nil,bne]
 rw[if_neg (by omega)]
 obtain⟨i,hi⟩:∃ i:Nat,at'=(i:Int):=⟨at'.toNat,by omega⟩
 subst hi
 have hil:i<e.length:=by omega
 rw[Int.toNat_natCast]
 obtain⟨hT,hn4,hdeep,_⟩:=qbc hz
 have hpos:=hT.pos
 obtain⟨H,ps,ow,c1,hO,hke⟩:=qt1 hL hR.f293 e hl hpos hf hT.ahead [.box [.int .i64 rule,.int .i64 (i:Int),.int .i64 N]]
 rw[List.length_singleton] at c1 hO hke
 have hH0:H[0]? = some (.box [.int .i64 rule,.int .i64 (i:Int),.int .i64 N]):=by rw[hke 0 (by omega)];rfl
 have hps:=hO.len
 have hgi:ps.getD i 0=ps[i]'(by omega):=by rw[List.getD_eq_getElem?_getD,List.getElem?_eq_getElem (by omega)];rfl
 have hgn:(ps.map qau)[i]? = some (.ptr (some (ps.getD i 0,0))):=by rw[List.getElem?_map,List.getElem?_eq_getElem (by omega),hgi];rfl
 obtain⟨ob,ok,avs,oa,n1,n2⟩:=hO.node i hil (by omega)
 rw[← hgi] at n1
 have hp0:=hO.low (ps.getD i 0) (by rw[hgi];exact List.getElem_mem _)
 have hgood:=qgX hz hf i hil
 have hte:=qc0 e hT.ahead i hil
 have hkids:∀ x (hx:x<e[i].kids.length),e[i].kids[x].toNat∈qbl e i∧e[i].kids[x].toNat<i:=fun x hx=>by
  have:=hT.ahead i hil _ (List.getElem_mem hx)
  refine⟨?_,by omega⟩
  unfold qbl
  rw[List.getElem?_eq_getElem hil]
  exact List.mem_map_of_mem (List.getElem_mem hx)
 have hres:=qun hR (.ptr (some (1,0))) rule (i:Int) N hr e[i].op e[i].n e[i].binds (e[i].kids.map fun k:Int=>qaW e k.toNat) e[i].alts (by rw[← hte];exact hgood) H (ps.getD i 0) (e[i].kids.map fun k:Int=>ps.getD k.toNat 0) ob ok oa avs
  (fun x q=>∃ hx:x<e[i].kids.length,At e ps e[i].kids[x].toNat q) n1 n2 (by simp) (fun x hx=>by
   rw[List.length_map] at hx
   rw[List.getElem_map,List.getElem_map]
   exact (hO.ws hT.ahead _ (by have:=(hkids x hx).2;omega)).mono fun q hq=>⟨hx,hq⟩)
  (fun x y q hxy ⟨hx,m,m1,m2,m3⟩ ⟨hy,m',m1',m2',m3'⟩=>by
   have:=qoD hO.nodup (a:=m) (b:=m') (by omega) (by omega) (by rw[← m3,← m3'])
   subst this
   refine qwY hT (hkids x hx).1 (hkids y hy).1 (fun he=>?_) m1 m1'
   have h1:=hT.ahead i hil _ (List.getElem_mem hx)
   have h2:=hT.ahead i hil _ (List.getElem_mem hy)
   exact qyD hT hil hx hy hxy (by omega))
  (fun x q ⟨hx,hq⟩=>At.lt hO hq)
 rw[← hte] at hres
 obtain⟨H2,r,c2,c3,c4,c5⟩:=hres
 have hw0:H[1]? = some (.box [.list (ps.map qau) ow,qau (ps.getD (e.length-1) 0)]):=hO.work
 generalize hpi:ps.getD i 0=p at *
 cases hq:qwd rule N (qaW e i) with
 | none =>
   rw[hq] at c3
   have hrn:r=.ptr none:=c3
   subst hrn
   unfold qcN
   dsimp only
   rw[show qau 1=.ptr (some (1,0)) from rfl] at c1
   unfold fn283
   simp -implicitDefEqProofs only[ev_,aOp,opd,qaa,qaA,qa7,qaz,aEq,qad,qab,qae,qag,qaJ,qai,qap,qac,qaf,qaj,qay,↓reduceIte,reduceCtorEq,Nat.reduceEqDiff,Nat.reduceAdd,ge_iff_le,gt_iff_lt,qav,qak,Option.isNone_none,hck,hr1,hr2,ha1,ha2,hdE,c1,hH0,hw0,hgn,c2,qam L hp,hp,List.map_nil,bne]
 | some t' =>
   rw[hq] at c3
   obtain⟨q,rfl,hws⟩:=c3
   obtain⟨f1,f2,f3⟩:=qrn rule N _ hgood hq
   have hnS:∀ j,(∃ x,∃ hx:x<e[i].kids.length,At e ps e[i].kids[x].toNat j)→j≠p:=by
    rintro j ⟨x,hx,m,m1,m2,m3⟩ he
    have hm:=qnv hT.ahead m1
    have:=(hkids x hx).2
    have:=qoD hO.nodup (a:=m) (b:=i) (by omega) (by omega) (by rw[← m3,he,hpi])
    omega
   have hnS':∀ j,OrN (fun j=>∃ x,∃ hx:x<e[i].kids.length,At e ps e[i].kids[x].toNat j) (H.length+1) j→j≠p:=by
    rintro j (hj | hj)
    ·exact hnS j hj
    ·omega
   have hp2:H2[p]? = some (nb e[i] (.list (e[i].binds.map qat) ob) (.list ((e[i].kids.map fun k:Int=>ps.getD k.toNat 0).map qau) ok) (.list avs oa)):=by
    rw[c5 p hp0.2 (fun hh=>hnS p hh rfl)]
    exact n1
   have hlp2:=hlt hp2
   cases hws with
   | mk op' n' binds' kids' alts' _ psq obq okq avsq oaq hpq hboxq haq hlq hkq =>
   have hw3:WS (H2.set p (.box [.int .i64 op',.int .i64 n',.list (binds'.map qat) obq,.list (psq.map qau) okq,.list avsq oaq])) (fun _=>True) (.mk op' n' binds' kids' alts') p :=
    .mk _ _ _ _ _ _ psq obq okq avsq oaq trivial (hgs hlp2) haq hlq fun x hx=>((hkq x hx).frame fun j hj=>Go.Abs.hgn (fun e=>hnS' j hj e.symm)).mono fun _ _=>trivial
   have hglob:=glob hT hO hil (t':=.mk op' n' binds' kids' alts') (by rw[hpi];exact hw3) (fun k hk hb=>by
    have hkp:ps.getD k 0≠p:=fun he=>by
     have:=qoD hO.nodup (a:=k) (b:=i) (by omega) (by omega) (by rw[he,hpi])
     subst this
     exact hb (.refl _)
    have hkl:=hO.low (ps.getD k 0) (by rw[List.getD_eq_getElem?_getD,List.getElem?_eq_getElem (by omega)];exact List.getElem_mem _)
    rw[Go.Abs.hgn (fun e=>hkp e.symm),c5 _ hkl.2]
    rintro ⟨x,hx,m,m1,m2,m3⟩
    have:=qoD hO.nodup (a:=k) (b:=m) (by omega) (by omega) m3
    subst this
    exact hb (.step (hkids x hx).1 m1)) (e.length-1) (by omega) (by
     by_cases hie:e.length-1=i
     ·exact .inl hie
     ·exact .inr fun hb=>by have:=qnv hT.ahead hb;omega)
   obtain⟨b1,b2,b3⟩:=qm3 hT.ahead i hil (.mk op' n' binds' kids' alts') f1 420 f3 (fun k hk=>qfU hz hf k hk) (e.length-1) (by omega)
   have hroot:=(qdQ hz hf).2
   rw[qe1] at hroot hdeep
   have hsz:qaR (qct e i (.mk op' n' binds' kids' alts') (e.length-1))<2 ^ 30:=by
    rw[hroot] at b2
    have:e.length*qaR (.mk op' n' binds' kids' alts')≤4096*20000:=Nat.mul_le_mul hn4 f2
    omega
   generalize hTT:qct e i (.mk op' n' binds' kids' alts') (e.length-1)=T at *
   have hw3':(H2.set p (.box [.int .i64 op',.int .i64 n',.list (binds'.map qat) obq,.list (psq.map qau) okq,.list avsq oaq]))[1]? = some (.box [.list (ps.map qau) ow,qau (ps.getD (e.length-1) 0)]):=by
    rw[Go.Abs.hgn (by omega),c5 1 (hlt hw0)]
    ·exact hw0
    ·rintro ⟨x,hx,m,m1,m2,m3⟩
     have:=hO.low (ps.getD m 0) (by rw[List.getD_eq_getElem?_getD,List.getElem?_eq_getElem (by omega)];exact List.getElem_mem _)
     omega
   have hvw:=quO hw3' rfl hglob (by omega)
   have hls:=hR.list T b1 hsz
   have hck2:=qd3 hR.toCLib (qa6 T) (by unfold qa6;rw[qcV];exact hsz) (qd8 T 0 b1)
   have hdL:=qaD (qa6 T)
   obtain⟨tc,htc,hdt⟩:=qbz T
   rw[htc] at hvw hls
   rw[show qau 1=.ptr (some (1,0)) from rfl] at c1
   unfold nb at hp2
   unfold qcN
   dsimp only
   rw[hTT]
   by_cases hz2:qaO (qa6 T)=0
   ·rw[if_pos hz2]
    rw[hz2] at hck2
    generalize qaU _ 1999 _=X at hvw
    unfold fn283
    simp -implicitDefEqProofs only[ev_,aOp,opd,qaa,qar,qaA,qa7,qaz,aEq,qad,qab,qae,qag,qaI,qaJ,qai,leaf,qaq,qap,qac,qaf,qaj,qay,↓reduceIte,reduceCtorEq,Nat.reduceEqDiff,Nat.reduceAdd,ge_iff_le,gt_iff_lt,qav,qak,hck,hr1,hr2,ha1,ha2,hdE,c1,hH0,hw0,hgn,c2,hboxq,hp2,qjj,hvw,hls,hdt,hdL,hck2,qds,qam L hp,hp,List.map_nil,bne]
   ·have hne2:(qaO (qa6 T)==0)=false:=by simpa using hz2
    rw[if_neg hz2]
    generalize qaU _ 1999 _=X at hvw
    generalize qaO (qa6 T)=rr at *
    unfold fn283
    simp -implicitDefEqProofs only[ev_,aOp,opd,qaa,qar,qaA,qa7,qaz,aEq,qad,qab,qae,qag,qaI,qaJ,qai,leaf,qaq,qap,qac,qaf,qaj,qay,↓reduceIte,reduceCtorEq,Nat.reduceEqDiff,Nat.reduceAdd,ge_iff_le,gt_iff_lt,qav,qak,hck,hr1,hr2,ha1,ha2,hdE,c1,hH0,hw0,hgn,c2,hboxq,hp2,qjj,hvw,hls,hdt,hdL,hck2,hne2,qds,qam L hp,hp,List.map_nil,bne]
end
def twI:AVal→Bool
 | .int .i64 _=>true
 | _=>false
def twP (f:Nat) (args:List AVal) (h:Heap):Option (ARes × Heap) :=
 if f=188 then
  (match args with
  | [.list xs none]=>if (xs.all twI && decide (xs.length<2 ^ 30))=true then (if xs.isEmpty=true then some (.val (.list [] none),h) else some (.val (.vec h.length xs.length),h++[.vec xs 1])) else none
  | _=>none)
 else if f=138 then
  (match args with
  | [.list [] none]=>some (.val (.tuple []),h)
  | _=>none)
 else none
def twN:AVal→Int
 | .int _ n=>n
 | _=>0
theorem qzT {xs:List AVal} (h:xs.all twI=true):xs=(xs.map twN).map qat:=by
 induction xs with
 | nil=>rfl
 | cons x xs ih =>
   rw[List.all_cons,Bool.and_eq_true] at h
   rw[List.map_cons,List.map_cons,← ih h.2]
   congr 1
   obtain⟨h1,_⟩:=h
   unfold twI at h1
   split at h1
   ·rfl
   ·cases h1
theorem qzU {L:Lib} (hM:MPrims L) (h0:∀ h:Heap,call L 138 [.list [] none] h=some (.val (.tuple []),h)):∀ f a h r,twP f a h=some r→call L f a h=some r:=by
 intro f a h r hr
 unfold twP at hr
 split at hr
 ·rename_i hf
  subst hf
  split at hr
  ·rename_i xs
   split at hr
   ·rename_i hc
    rw[Bool.and_eq_true,decide_eq_true_eq] at hc
    have hx:=qzT hc.1
    have hl:(xs.map twN).length<2 ^ 30:=by rw[List.length_map];exact hc.2
    have hcl:=hM.clone (xs.map twN) h hl
    rw[← hx] at hcl
    split at hr
    ·rename_i he
     have:xs=[]:=by simpa using he
     subst this
     rw[hcl,← hr,List.map_nil,qrP,qrO,List.append_nil]
    ·rename_i he
     have hne:xs.map twN≠[]:=by
      intro e
      have:xs=[]:=by simpa using e
      subst this
      exact he rfl
     rw[hcl,← hr,qjL hne,qjI hne,← hx,List.length_map]
   ·cases hr
  ·cases hr
 ·split at hr
  ·rename_i hf
   subst hf
   split at hr
   ·injection hr with hr
    rw[← hr]
    exact h0 h
   ·cases hr
  ·cases hr
theorem qmR {α β:Type} [BEq α] [LawfulBEq α] {l:List (α × β)} {a:α} {b:β} (h:l.lookup a=some b):(a,b)∈l:=by
 induction l with
 | nil=>cases h
 | cons p l ih =>
   obtain⟨x,y⟩:=p
   rw[List.lookup_cons] at h
   by_cases hx:(a==x)=true
   ·rw[hx] at h
    injection h with h
    rw[eq_of_beq hx,h]
    exact List.mem_cons_self
   ·have hx':(a==x)=false:=by simpa using hx
    rw[hx'] at h
    exact List.mem_cons_of_mem _ (ih h)
theorem qxj {L:Lib} (hL:Plain L) (hM:MPrims L) (h0:∀ h:Heap,call L 138 [.list [] none] h=some (.val (.tuple []),h)) {T:List (Nat × AFn)} (hT:∀ p∈T,L.fns p.1=some p.2) {n f:Nat} (hc:qvG (.bool true) (qsv (fun f=>List.lookup f T) twP n f [] [])=true) (h:Heap) :
  pcall L f [] h=some (.val (.bool true),h):=by
 obtain⟨H,hr⟩:=qvH hc
 have:=qwt (L:=L) hL.pure hL.summ (fun f=>List.lookup f T) twP (fun f fn hf=>hT _ (qmR hf)) (qzU hM h0) n f [] [] _ hr
 exact qco this rfl rfl h
section
end
end Go.Abs
