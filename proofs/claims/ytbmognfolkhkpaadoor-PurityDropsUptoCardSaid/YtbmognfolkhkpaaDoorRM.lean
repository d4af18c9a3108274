/-
  PARTS OF A PROOF, joined: an abstract machine for quiet code, its evaluation, and what the seat's functions answer on it. Conditions: none.
-/
import Derived.Test.YtbmognfolkhkpaaDoorRwL
import Derived.Test.YtbmognfolkhkpaaDoorRC
set_option linter.unusedVariables false
set_option linter.unusedSimpArgs false
set_option maxRecDepth 100000
set_option maxHeartbeats 4000000
namespace Go.Abs
theorem qmx (id:Int) {v b:CTree} (hv:TFit v) (hb:TFit b):TFit (qoK id v b) :=
 .mk _ _ _ _ _ (by simp) (by simp) (by simp) fun k hk=>by
  rcases List.mem_cons.1 hk with rfl | hk
  ·exact hv
  ·rw[List.mem_singleton.1 hk];exact hb
theorem qjZ (id:Int) (v b:CTree):qbA (qoK id v b)=qbA v+qbA b+1:=by
 unfold qoK
 rw[qbA,qa9,qa9,qa9]
 omega
theorem qmB (id:Int) (v b:CTree):hgt (qoK id v b)=max (hgt v) (hgt b)+1:=by
 unfold qoK
 rw[hgt,qeB,qeB,qeB]
 omega
theorem qr1:∀ (ids:List Int) (vs:List CTree) (b:CTree),(∀ v∈vs,TFit v)→TFit b→TFit (qge ids vs b)∧qbA (qge ids vs b)≤qbA b+qa9 vs+ids.length∧hgt (qge ids vs b)≤max (qeB vs) (hgt b)+ids.length
 | [],vs,b,_,hb => by
   have:qge [] vs b=b:=by cases vs<;>rfl
   rw[this]
   exact⟨hb,by omega,by omega⟩
 | id :: ids,[],b,_,hb => by
   have:qge (id::ids) [] b=b:=rfl
   rw[this]
   exact⟨hb,by rw[List.length_cons];omega,by omega⟩
 | id :: ids,v :: vs,b,hv,hb => by
   obtain⟨h1,h2,h3⟩:=qr1 ids vs b (fun x hx=>hv x (by simp[hx])) hb
   rw[qge]
   refine⟨qmx id (hv v (by simp)) h1,?_,?_⟩
   ·rw[qjZ,qa9,List.length_cons];omega
   ·rw[qmB,qeB,List.length_cons];omega
mutual
theorem qmX (id:Int) (A:CTree) (hA:TFit A):∀ b:CTree,TFit b→ShT b→TFit (qgb id A b)∧qbA (qgb id A b)≤qbA b+qjp id b*qbA A∧hgt (qgb id A b)≤hgt b+hgt A
 | .mk op n binds kids alts,hb,hs => by
   cases hb with
   | mk _ _ _ _ _ h1 h2 h3 h4 =>
   cases hs with
   | mk _ _ _ _ _ hsh hsk =>
   rw[qgb]
   by_cases hc:op=0∧n=id
   ·rw[if_pos hc]
    refine⟨hA,?_,by omega⟩
    rw[qjp,if_pos hc.1,if_pos hc.2]
    omega
   ·rw[if_neg hc]
    obtain⟨g1,g2,g3⟩:=qoq id A hA kids h4 hsk
    have hl:(qeg id A kids).length=kids.length:=by rw[qi2,List.length_map]
    refine⟨.mk _ _ _ _ _ h1 (by omega) h3 g1,?_,?_⟩
    ·rw[qbA,qbA,qjp]
     by_cases h0:op=0
     ·have hk0:kids=[]:=List.length_eq_zero_iff.1 (qkW (h0 ▸ hsh))
      subst hk0
      rw[qeg,qa9]
      omega
     ·rw[if_neg h0]
      omega
    ·rw[hgt,hgt]
     omega
theorem qoq (id:Int) (A:CTree) (hA:TFit A):∀ ks:List CTree,(∀ k∈ks,TFit k)→(∀ k∈ks,ShT k)→(∀ k∈qeg id A ks,TFit k)∧qa9 (qeg id A ks)≤qa9 ks+qgD id ks*qbA A∧qeB (qeg id A ks)≤qeB ks+hgt A
 | [],_,_ => by
   refine⟨fun k hk=>(by rw[qeg] at hk;cases hk),?_,?_⟩
   ·rw[qeg,qa9];omega
   ·rw[qeg,qeB];omega
 | k :: ks,hf,hs => by
   obtain⟨h1,h2,h3⟩:=qmX id A hA k (hf k (by simp)) (hs k (by simp))
   obtain⟨g1,g2,g3⟩:=qoq id A hA ks (fun x hx=>hf x (by simp[hx])) (fun x hx=>hs x (by simp[hx]))
   rw[qeg]
   refine⟨fun x hx=>?_,?_,?_⟩
   ·rcases List.mem_cons.1 hx with rfl | hx
    ·exact h1
    ·exact g1 x hx
   ·rw[qa9,qa9,qgD,Nat.add_mul];omega
   ·rw[qeB,qeB];omega
end
theorem qlK {op n:Int} {binds:List Int} {kids:List CTree} {alts:List CAlt} (h:TGood (.mk op n binds kids alts)):binds.length≤16∧∀ a∈alts,a.binds.length≤16:=by
 have hl:=h.lab ⟨op,n,binds,kids.map qjw,alts⟩ (by rw[qd5];simp)
 obtain⟨_,h2⟩:=qqI hl
 have hf:=qiy h2
 obtain⟨f1,f2⟩:=qkm alts (binds.length:Int)
 exact⟨by have:=f1;dsimp only at hf;omega,fun a ha=>by have:=f2 a ha;dsimp only at hf;omega⟩
def quv (t t':CTree):Prop:=TFit t'∧qbA t'≤20000∧hgt t'≤hgt t+420
theorem qmw {op n:Int} {binds:List Int} {kids:List CTree} {alts:List CAlt} (h:TGood (.mk op n binds kids alts)) {k:CTree} (hk:k∈kids):quv (.mk op n binds kids alts) k:=by
 have g:=h.kid hk
 exact⟨g.fit,by have:=g.size;omega,by have:=g.deep;omega⟩
theorem qrJ (t:CTree) (op n:Int):quv t (.mk op n [] [] []) :=
 ⟨.mk _ _ _ _ _ (by simp) (by simp) (by simp) (fun k hk=>by cases hk),by rw[qbA,qa9];omega,by rw[hgt,qeB];omega⟩
theorem qjf (n:Int):∀ (rb:List Int) (rk:List CTree) {t':CTree},qfO n rb rk=some t'→t'∈rk
 | [],rk,t',h=>by cases rk<;>cases h
 | l::rb,[],t',h=>by cases h
 | l :: rb,k :: rk,t',h => by
   rw[qfO] at h
   split at h
   ·injection h with h
    rw[h]
    simp
   ·exact List.mem_cons_of_mem _ (qjf n rb rk h)
theorem qhX (cn:Int) (ck:List CTree) (c:CTree):∀ (as:List CAlt) (bs:List CTree) {t':CTree},qc2 cn ck c as bs=some t'→(∃ a∈as,∃ b∈bs,a.binds.length=ck.length∧t'=qge a.binds ck b)∨t'∈bs
 | [],bs,t',h=>by cases bs<;>cases h
 | a::as,[],t',h=>by cases h
 | a :: as,b :: bs,t',h => by
   rw[qc2] at h
   split at h
   ·split at h
    ·cases h
    ·rename_i hl
     injection h with h
     exact .inl ⟨a,by simp,b,by simp,by simpa using hl,h.symm⟩
   ·split at h
    ·injection h with h
     exact .inr (by rw[h];simp)
    ·rcases qhX cn ck c as bs h with ⟨a',h1,b',h2,h3⟩ | h1
     ·exact .inl ⟨a',by simp[h1],b',by simp[h2],h3⟩
     ·exact .inr (by simp[h1])
theorem qnu {t b:CTree} {ids:List Int} {vs:List CTree} (hi:ids.length≤16) (hv:∀ v∈vs,TFit v) (hb:TFit b) (hs:qa9 vs+qbA b≤10000) (h1:qeB vs≤hgt t) (h2:hgt b≤hgt t):quv t (qge ids vs b):=by
 obtain⟨g1,g2,g3⟩:=qr1 ids vs b hv hb
 exact⟨g1,by omega,by omega⟩
theorem qnP (rule n:Int) (binds:List Int) (kids:List CTree) (alts:List CAlt) (hg:TGood (.mk 4 n binds kids alts)) {t':CTree} (h:qiu rule (.mk 4 n binds kids alts)=some t'):quv (.mk 4 n binds kids alts) t':=by
 obtain⟨sk,sb,_,_⟩:=qgL hg.shape rfl
 obtain⟨v,body,rfl⟩:=qmG sk
 obtain⟨id,rfl⟩:=qnR sb
 have gv:=hg.kid (k:=v) (by simp)
 have gb:=hg.kid (k:=body) (by simp)
 have hsz:=hg.size
 have hh:hgt (.mk 4 n [id] [v,body] alts)=max (hgt v) (hgt body)+1:=by rw[hgt,qeB,qeB,qeB];omega
 have hs:qbA (.mk 4 n [id] [v,body] alts)=qbA v+qbA body+1:=by rw[qbA,qa9,qa9,qa9];omega
 rw[hs] at hsz
 have hdeep:=hg.deep
 rw[hh] at hdeep
 have hocc:=qsb id body
 obtain⟨vo,vn,vb,vk,va⟩:=v
 rw[qhJ] at h
 split at h
 ·rename_i hc
  injection h with h
  subst h
  obtain⟨e1,e2,e3⟩:=qlv hc.2 gv.shape
  subst e1 e2 e3
  obtain⟨g1,g2,g3⟩:=qmX id _ gv.fit body gb.fit gb.sh
  have e1:qbA (.mk vo vn [] [] [])=1:=by rw[qbA,qa9]
  have e2:hgt (.mk vo vn [] [] [])=1:=by rw[hgt,qeB]
  rw[e1] at g2
  rw[e2] at g3
  exact⟨g1,by omega,by rw[hh];omega⟩
 ·split at h
  ·injection h with h
   subst h
   exact qmw hg (by simp)
  ·split at h
   ·rename_i hc
    injection h with h
    subst h
    obtain⟨_,rfl⟩:=hc
    obtain⟨sk,_⟩:=qgL gv.shape rfl
    obtain⟨k0,k1,rfl⟩:=qmG sk
    have g0:=gv.kid (k:=k0) (by simp)
    have g1:=gv.kid (k:=k1) (by simp)
    have hv1:qbA (.mk 4 vn vb [k0,k1] va)=qbA k0+qbA k1+1:=by rw[qbA,qa9,qa9,qa9];omega
    have hv2:hgt (.mk 4 vn vb [k0,k1] va)=max (hgt k0) (hgt k1)+1:=by rw[hgt,qeB,qeB,qeB];omega
    show quv _ (qoK _ k0 (qoK id k1 body))
    refine⟨qmx _ g0.fit (qmx _ g1.fit gb.fit),?_,?_⟩
    ·rw[qjZ,qjZ];omega
    ·rw[qmB,qmB,hh];omega
   ·split at h
    ·rename_i hc
     injection h with h
     subst h
     obtain⟨_,rfl,hone⟩:=hc
     have sk:=(qfC gv.shape).1 (.inl rfl)
     rw[hone] at sk
     obtain⟨k0,k1,rfl⟩:=qmG sk
     have g0:=gv.kid (k:=k0) (by simp)
     have g1:=gv.kid (k:=k1) (by simp)
     have hv1:qbA (.mk 7 vn vb [k0,k1] va)=qbA k0+qbA k1+1:=by rw[qbA,qa9,qa9,qa9];omega
     have hv2:hgt (.mk 7 vn vb [k0,k1] va)=max (hgt k0) (hgt k1)+1:=by rw[hgt,qeB,qeB,qeB];omega
     show quv _ (.mk 7 0 [] [k0,qoK id k1 body] va)
     refine⟨.mk _ _ _ _ _ ?_ (by simp) (by omega) fun k hk=>?_,?_,?_⟩
     ·have:=gv.fit
      cases this with
      | mk _ _ _ _ _ hb _ _ _=>rw[List.length_append] at hb;rw[List.nil_append];omega
     ·rcases List.mem_cons.1 hk with rfl | hk
      ·exact g0.fit
      ·rw[List.mem_singleton.1 hk]
       exact qmx _ g1.fit gb.fit
     ·rw[qbA,qa9,qa9,qa9,qjZ];omega
     ·rw[hgt,qeB,qeB,qeB,qmB,hh];omega
    ·split at h
     ·rename_i hc
      injection h with h
      subst h
      obtain⟨g1,g2,g3⟩:=qmX id _ gv.fit body gb.fit gb.sh
      rw[hc.2.2,Nat.one_mul] at g2
      exact⟨g1,by omega,by have:=gv.deep;rw[hh];omega⟩
     ·cases h
theorem qqs (t:CTree) (n a b:Int) {t':CTree} (h:qja n a b=some t'):quv t t':=by
 unfold qja at h
 repeat' (first | (injection h with h;subst h;exact qrJ t _ _) | (cases h;done) | split at h)
theorem qug (rule N:Int) (t:CTree) (hg:TGood t) {t':CTree} (h:qsB rule N t=some t'):quv t t':=by
 obtain⟨op,n,binds,kids,alts⟩:=t
 rw[qsB] at h
 have hsh:=hg.shape
 have hsz:=hg.size
 have hdp:=hg.deep
 split at h
 ·cases h
 split at h
 ·rename_i hc
  obtain⟨_,rfl,h2,h3⟩:=hc
  have hkpos:0<kids.length:=(qeQ hsh).2.1 (by simp)
  obtain⟨k0,ks,rfl⟩:∃ k0 ks,kids=k0::ks:=by
   cases kids with
   | nil=>simp at hkpos
   | cons a l=>exact⟨a,l,rfl⟩
  have g0:=hg.kid (k:=k0) (by simp)
  obtain⟨o0,n0,b0,kk0,a0⟩:=k0
  have h2:o0=2:=h2
  subst h2
  have hk1:=(qeQ g0.shape).1 rfl
  obtain⟨kb,rfl⟩:=qnR hk1
  have gb:=g0.kid (k:=kb) (by simp)
  have h:some (qge b0 ks kb)=some t':=h
  injection h with h
  subst h
  have hb16:=(qlK g0).1
  rw[qbA,qa9] at hsz
  have hkb:qbA (.mk 2 n0 b0 [kb] a0)=qbA kb+1:=by rw[qbA,qa9,qa9];first | done | omega
  have hkh:hgt (.mk 2 n0 b0 [kb] a0)=hgt kb+1:=by rw[hgt,qeB,qeB];first | done | omega
  have hh:hgt (.mk 3 n binds (.mk 2 n0 b0 [kb] a0::ks) alts)=max (hgt kb+1) (qeB ks)+1:=by rw[hgt,qeB,hkh]
  exact qnu hb16 (fun v hv=>(hg.kid (k:=v) (by simp[hv])).fit) gb.fit (by omega) (by rw[hh];omega) (by rw[hh];omega)
 split at h
 ·rename_i hc
  subst hc
  exact qnP rule n binds kids alts hg h
 split at h
 ·rename_i hc
  injection h with h
  subst h
  have:=qgM hsh hc.2.1
  refine qmw hg ?_
  rw[List.getD_eq_getElem?_getD,List.getElem?_eq_getElem (by omega)]
  exact List.getElem_mem _
 split at h
 ·rename_i hc
  obtain⟨_,rfl,h2⟩:=hc
  have hka:=(qfC hsh).1 (.inl rfl)
  obtain⟨k0,ks,rfl⟩:∃ k0 ks,kids=k0::ks:=by
   cases kids with
   | nil=>simp at hka
   | cons a l=>exact⟨a,l,rfl⟩
  have g0:=hg.kid (k:=k0) (by simp)
  obtain⟨o0,n0,b0,kk0,a0⟩:=k0
  rw[qlD] at h
  rcases qhX _ _ _ _ _ h with ⟨a,h1,b,h3,h4,rfl⟩ | h1
  ·have gb:=hg.kid (k:=b) (by simp[h3])
   have hb16:=(qlK hg).2 a h1
   have hsb:=qmc h3
   have hhb:=qhe h3
   rw[qbA,qa9] at hsz
   have e1:qbA (.mk o0 n0 b0 kk0 a0)=qa9 kk0+1:=by rw[qbA]
   have e2:hgt (.mk o0 n0 b0 kk0 a0)=qeB kk0+1:=by rw[hgt]
   have hh:hgt (.mk 7 n binds (.mk o0 n0 b0 kk0 a0::ks) alts)=max (qeB kk0+1) (qeB ks)+1:=by rw[hgt,qeB,e2]
   exact qnu hb16 (fun v hv=>(g0.kid hv).fit) gb.fit (by omega) (by rw[hh];omega) (by rw[hh];omega)
  ·exact qmw hg (by simp[h1])
 split at h
 ·rename_i hc
  obtain⟨k0,k1,rfl⟩:=qmG hc.2.2
  obtain⟨o0,a,b0,kk0,a0⟩:=k0
  obtain⟨o1,b,b1,kk1,a1⟩:=k1
  rw[qne] at h
  split at h
  ·cases h
  ·exact qqs _ n a b h
 split at h
 ·rename_i hc
  obtain⟨_,rfl⟩:=hc
  obtain⟨k0,rfl⟩:=qnR (qoh hsh)
  have g0:=hg.kid (k:=k0) (by simp)
  obtain⟨ro,rn,rb,rk,ra⟩:=k0
  rw[qns] at h
  split at h
  ·cases h
  ·have hm:=qjf _ _ _ h
   have gk:=g0.kid hm
   have:=qhe hm
   have hh:hgt (.mk 10 n binds [.mk ro rn rb rk ra] alts)=qeB rk+1+1:=by rw[hgt,qeB,qeB,hgt];omega
   exact⟨gk.fit,by have:=gk.size;omega,by have:=gk.deep;omega⟩
 ·cases h
theorem qwH {e:List CExpr} (hA:qfj e) (i:Nat) (hi:i<e.length) (t':CTree) (hf:TFit t') (d:Nat) (hd:hgt t'≤hgt (qcq e i)+d) (hfe:∀ k,k<e.length→TFit (qcq e k)) :
  ∀ k,k<e.length→TFit (qeu e i t' k)∧qbA (qeu e i t' k)≤qbA (qcq e k)*qbA t'∧hgt (qeu e i t' k)≤hgt (qcq e k)+d:=by
 intro k
 induction k using Nat.strongRecOn with
 | ind k ih =>
   intro hk
   have hpos:=qev t'
   rw[qoe e hA i t' k hk]
   by_cases hki:k=i
   ·rw[if_pos hki]
    subst hki
    refine⟨hf,?_,hd⟩
    have:=qev (qcq e k)
    exact Nat.le_mul_of_pos_left _ this
   ·rw[if_neg hki]
    have h1:=hfe k hk
    rw[qdl e hA k hk] at h1 ⊢
    cases h1 with
    | mk _ _ _ _ _ b1 b2 b3 b4 =>
    have hkid:∀ q∈e[k].kids,q.toNat<k:=fun q hq=>by have:=hA k hk q hq;omega
    have key:∀ l:List Int,(∀ q∈l,q.toNat<k)→(∀ x∈l.map fun q=>qeu e i t' q.toNat,TFit x)∧qa9 (l.map fun q=>qeu e i t' q.toNat)≤qa9 (l.map fun q=>qcq e q.toNat)*qbA t'∧qeB (l.map fun q=>qeu e i t' q.toNat)≤qeB (l.map fun q=>qcq e q.toNat)+d:=by
     intro l
     induction l with
     | nil =>
       intro _
       refine⟨fun x hx=>(by cases hx),?_,?_⟩
       ·rw[List.map_nil,List.map_nil,qa9];omega
       ·rw[List.map_nil,List.map_nil,qeB];omega
     | cons q l ih2 =>
       intro hq
       obtain⟨g1,g2,g3⟩:=ih q.toNat (hq q (by simp)) (by have:=hq q (by simp);omega)
       obtain⟨j1,j2,j3⟩:=ih2 fun x hx=>hq x (by simp[hx])
       rw[List.map_cons,List.map_cons]
       refine⟨fun x hx=>?_,?_,?_⟩
       ·rcases List.mem_cons.1 hx with rfl | hx
        ·exact g1
        ·exact j1 x hx
       ·rw[qa9,qa9,Nat.add_mul];omega
       ·rw[qeB,qeB];omega
    obtain⟨j1,j2,j3⟩:=key e[k].kids hkid
    refine⟨.mk _ _ _ _ _ b1 (by rw[List.length_map] at b2 ⊢;exact b2) b3 j1,?_,?_⟩
    ·rw[qbA,qbA,Nat.add_mul,Nat.one_mul];omega
    ·rw[hgt,hgt];omega
theorem qxz (t:CTree):(∀ l∈qd5 t,qdk false l=0)→ShT t:=by
 induction t using CTree.ind with
 | h op n binds kids alts ih =>
   intro hl
   rw[qd5] at hl
   have h1:=qgz (hl ⟨op,n,binds,kids.map qjw,alts⟩ (by simp))
   dsimp only at h1
   rw[List.length_map] at h1
   exact .mk _ _ _ _ _ h1 fun k hk=>ih k hk fun l hm=>hl l (List.mem_append_left _ (qkN hk l hm))
theorem qvb {e:List CExpr} (hz:qb6 e=0) (hf:∀ x∈e,NodeFit x) (k:Nat) (hk:k<e.length):TGood (qcq e k):=by
 have hT:=(qdI hz).1
 have h:=qwN (qxB hz) (qxA hT k hk)
 exact⟨qot hz hf k hk,qxz _ h.lab,h.deep,h.size,h.lab⟩
end Go.Abs
set_option linter.unusedVariables false
set_option linter.unusedSimpArgs false
set_option maxRecDepth 100000
set_option maxHeartbeats 8000000
namespace Go.Abs
def qoQ (e:List CExpr) (i:Nat):Option CTree→List CExpr × Int
 | none=>([],12)
 | some t'=>if qb6 (qcR (qeu e i t' (e.length-1)))=0 then (qcR (qeu e i t' (e.length-1)),0) else ([],2)
def qeS (e:List CExpr) (rule at' N:Int):List CExpr × Int :=
 if qb6 e=0 then (if rule<1∨12<rule then ([],4) else if at'<0∨(e.length:Int)≤at' then ([],12) else qoQ e at'.toNat (qsB rule N (qcq e at'.toNat))) else ([],qb6 e)
theorem qsZ {H:Heap} {S:Nat→Prop} {w r:Nat} {a:AVal} {T:CTree} (hw:H[w]? = some (.box [a,qbp r])) (ha:leaf a=true) (hT:WS H S T r) (hh:hgt T≤900):viewV H (.ptr (some (w,0)))=.vptr [qbO H 1999 a,qa1 T] 0:=by
 unfold viewV
 rw[show (2000:Nat)=1999+1 from rfl,qbO,if_neg (by simp[qbd])]
 unfold qc0
 dsimp only
 rw[hw]
 dsimp only
 rw[if_pos (by rw[List.all_cons,ha];rfl),List.map_cons,List.map_cons,List.map_nil,hT.view 1999 (by omega)]
section
variable {L:Lib} (hR:RLib L)
include hR
theorem qs9 (e:List CExpr) (hl:e.length<2 ^ 30) (hf:∀ x∈e,NodeFit x) (rule at' N:Int) (hr:rule≠10∧rule≠12) (h:Heap) :
  pcall L 283 [.list (e.map qaO) none,.agg [.int .i64 rule,.int .i64 at',.int .i64 N]] h=some (.val (.tuple [.list ((qeS e rule at' N).1.map qaO) none,.int .i64 (qeS e rule at' N).2]),h):=by
 have hL:=hR.plain
 have hp:=hL.pure
 have hdE:=qbu e
 have hck:=qmr hR.toCLib e hl hf
 refine qbL hL hR.f283 (by simp only[qbd,qaZ,qbu,Bool.and_self]) ?_ h
 unfold qeS
 by_cases hz:qb6 e=0
 case neg =>
  have hne:(qb6 e != 0)=true:=by simpa using hz
  rw[if_neg hz]
  dsimp only
  generalize qb6 e=r at *
  unfold fn283
  simp -implicitDefEqProofs only[qad,qae,qab,qar,qac,qah,aOp,opd,qak,qal,qag,qba,qa8,qaj,qau,qaS,qao,qaw,qaI,qbx,qbw,qc1,qaa,qav,qat,Option.getD_some,List.map_cons,List.map_nil,List.length_nil,List.nil_append,List.getElem?_cons_zero,List.getElem?_cons_succ,↓reduceIte,Bool.and_true,Bool.false_eq_true,and_self,reduceCtorEq,Nat.reduceEqDiff,qa3,qaD,hck,hne,hdE,qaK L hp,hp,List.map_nil]
 rw[if_pos hz]
 rw[hz] at hck
 by_cases hr1:rule<1
 ·rw[if_pos (.inl hr1)]
  unfold fn283
  simp -implicitDefEqProofs only[qam,qad,qae,qab,qar,qac,qap,qah,aOp,opd,qak,qal,qag,qba,qa8,qaj,qax,qay,qaE,qau,qaS,qao,qaw,qaI,qbx,qbw,qc1,qaa,qav,qat,qde,beq_self_eq_true,Option.getD_some,List.map_cons,List.map_nil,List.length_nil,List.nil_append,List.getElem?_cons_zero,List.getElem?_cons_succ,↓reduceIte,Bool.and_true,Bool.not_true,Bool.false_eq_true,decide_true,and_self,reduceCtorEq,Nat.add_zero,Nat.reduceEqDiff,qa3,qaD,hck,hr1,hdE,qaK L hp,hp,List.map_nil,bne]
 by_cases hr2:12<rule
 ·rw[if_pos (.inr hr2)]
  unfold fn283
  simp -implicitDefEqProofs only[qam,qad,qae,qab,qar,qac,qap,qah,aOp,opd,qak,qal,qag,qba,qa8,qaj,qax,qay,qaE,qau,qaS,qao,qaw,qaI,qbx,qbw,qc1,qaa,qav,qat,beq_self_eq_true,Option.getD_some,List.map_cons,List.map_nil,List.length_nil,List.nil_append,List.getElem?_cons_zero,List.getElem?_cons_succ,↓reduceIte,Bool.and_true,Bool.not_true,Bool.false_eq_true,decide_true,decide_false,and_self,reduceCtorEq,Nat.add_zero,Nat.reduceEqDiff,gt_iff_lt,qa3,qaD,hck,hr1,hr2,hdE,qaK L hp,hp,List.map_nil,bne]
 rw[if_neg (by omega)]
 by_cases ha1:at'<0
 ·rw[if_pos (.inl ha1)]
  unfold fn283
  simp -implicitDefEqProofs only[qam,qad,qae,qab,qar,qac,qap,qah,aOp,opd,qak,qal,qag,qba,qa8,qaj,qax,qay,qaE,qau,qaS,qao,qaw,qaI,qbx,qbw,qc1,qaa,qav,qat,qde,beq_self_eq_true,Option.getD_some,List.map_cons,List.map_nil,List.length_nil,List.nil_append,List.getElem?_cons_zero,List.getElem?_cons_succ,↓reduceIte,Bool.and_true,Bool.not_true,Bool.false_eq_true,decide_true,decide_false,and_self,reduceCtorEq,Nat.add_zero,Nat.zero_add,Nat.reduceEqDiff,gt_iff_lt,qa3,qaD,hck,hr1,hr2,ha1,hdE,qaK L hp,hp,List.map_nil,bne]
 by_cases ha2:(e.length:Int)≤at'
 ·rw[if_pos (.inr ha2)]
  unfold fn283
  simp -implicitDefEqProofs only[qam,qad,qae,qab,qar,qac,qap,qah,aOp,opd,qak,qal,qag,qba,qcb,qa8,qaj,qax,qay,qaE,qau,qaS,qao,qaw,qaI,qbx,qbw,qc1,qaa,qav,qat,beq_self_eq_true,Option.getD_some,List.map_cons,List.map_nil,List.length_nil,List.length_map,List.nil_append,List.getElem?_cons_zero,List.getElem?_cons_succ,↓reduceIte,Bool.and_true,Bool.not_true,Bool.false_eq_true,decide_true,decide_false,and_self,reduceCtorEq,Nat.add_zero,Nat.zero_add,Nat.reduceEqDiff,ge_iff_le,gt_iff_lt,qa3,qaD,hck,hr1,hr2,ha1,ha2,hdE,qaK L hp,hp,List.map_nil,bne]
 rw[if_neg (by omega)]
 obtain⟨i,hi⟩:∃ i:Nat,at'=(i:Int):=⟨at'.toNat,by omega⟩
 subst hi
 have hil:i<e.length:=by omega
 rw[Int.toNat_natCast]
 obtain⟨hT,hn4,hdeep,_⟩:=qdI hz
 have hpos:=hT.pos
 obtain⟨H,ps,ow,c1,hO,hke⟩:=qwD hL hR.f293 e hl hpos hf hT.ahead [.box [.int .i64 rule,.int .i64 (i:Int),.int .i64 N]]
 rw[List.length_singleton] at c1 hO hke
 have hH0:H[0]? = some (.box [.int .i64 rule,.int .i64 (i:Int),.int .i64 N]):=by rw[hke 0 (by omega)];rfl
 have hps:=hO.len
 have hgi:ps.getD i 0=ps[i]'(by omega):=by rw[List.getD_eq_getElem?_getD,List.getElem?_eq_getElem (by omega)];rfl
 have hgn:(ps.map qbp)[i]? = some (.ptr (some (ps.getD i 0,0))):=by rw[List.getElem?_map,List.getElem?_eq_getElem (by omega),hgi];rfl
 obtain⟨ob,ok,avs,oa,n1,n2⟩:=hO.node i hil (by omega)
 rw[← hgi] at n1
 have hp0:=hO.low (ps.getD i 0) (by rw[hgi];exact List.getElem_mem _)
 have hgood:=qvb hz hf i hil
 have hte:=qdl e hT.ahead i hil
 have hkids:∀ x (hx:x<e[i].kids.length),e[i].kids[x].toNat∈qcn e i∧e[i].kids[x].toNat<i:=fun x hx=>by
  have:=hT.ahead i hil _ (List.getElem_mem hx)
  refine⟨?_,by omega⟩
  unfold qcn
  rw[List.getElem?_eq_getElem hil]
  exact List.mem_map_of_mem (List.getElem_mem hx)
 have hres:=qsC hR (.ptr (some (1,0))) rule (i:Int) N hr e[i].op e[i].n e[i].binds (e[i].kids.map fun k:Int=>qcq e k.toNat) e[i].alts (by rw[← hte];exact hgood) H (ps.getD i 0) (e[i].kids.map fun k:Int=>ps.getD k.toNat 0) ob ok oa avs
  (fun x q=>∃ hx:x<e[i].kids.length,At e ps e[i].kids[x].toNat q) n1 n2 (by simp) (fun x hx=>by
   rw[List.length_map] at hx
   rw[List.getElem_map,List.getElem_map]
   exact (hO.ws hT.ahead _ (by have:=(hkids x hx).2;omega)).mono fun q hq=>⟨hx,hq⟩)
  (fun x y q hxy ⟨hx,m,m1,m2,m3⟩ ⟨hy,m',m1',m2',m3'⟩=>by
   have:=qqf hO.nodup (a:=m) (b:=m') (by omega) (by omega) (by rw[← m3,← m3'])
   subst this
   refine quN hT (hkids x hx).1 (hkids y hy).1 (fun he=>?_) m1 m1'
   have h1:=hT.ahead i hil _ (List.getElem_mem hx)
   have h2:=hT.ahead i hil _ (List.getElem_mem hy)
   exact qwr hT hil hx hy hxy (by omega))
  (fun x q ⟨hx,hq⟩=>At.lt hO hq)
 rw[← hte] at hres
 obtain⟨H2,r,c2,c3,c4,c5⟩:=hres
 have hw0:H[1]? = some (.box [.list (ps.map qbp) ow,qbp (ps.getD (e.length-1) 0)]):=hO.work
 generalize hpi:ps.getD i 0=p at *
 cases hq:qsB rule N (qcq e i) with
 | none =>
   rw[hq] at c3
   have hrn:r=.ptr none:=c3
   subst hrn
   unfold qoQ
   dsimp only
   rw[show qbp 1=.ptr (some (1,0)) from rfl] at c1
   unfold fn283
   simp -implicitDefEqProofs only[qam,qad,qaL,qae,qab,qar,qac,qap,qah,aOp,opd,qak,qal,qag,qba,qcb,qa8,aEq,qan,qaj,qax,qay,qbE,qaE,qau,qaY,qaS,qao,qaw,qaI,qa2,qaT,qaN,qbc,qbx,qbw,qc1,qaa,qav,qat,beq_self_eq_true,Option.map_some,Option.getD_some,List.map_cons,List.map_nil,List.length_cons,List.length_nil,List.length_map,List.nil_append,List.append_nil,List.getElem?_cons_zero,List.getElem?_cons_succ,List.take_succ_cons,List.drop_zero,List.take_nil,↓reduceIte,Bool.and_true,Bool.not_true,Bool.false_eq_true,decide_false,and_self,Nat.le_refl,reduceCtorEq,Nat.add_zero,Nat.zero_add,Nat.reduceEqDiff,Nat.reduceAdd,Int.toNat_natCast,Int.natCast_nonneg,qaC,qaM,ge_iff_le,gt_iff_lt,qa3,qaD,Option.isNone_none,hck,hr1,hr2,ha1,ha2,hdE,c1,hH0,hw0,hgn,c2,qaK L hp,hp,List.map_nil,bne]
 | some t' =>
   rw[hq] at c3
   obtain⟨q,rfl,hws⟩:=c3
   obtain⟨f1,f2,f3⟩:=qug rule N _ hgood hq
   have hnS:∀ j,(∃ x,∃ hx:x<e[i].kids.length,At e ps e[i].kids[x].toNat j)→j≠p:=by
    rintro j ⟨x,hx,m,m1,m2,m3⟩ he
    have hm:=qpC hT.ahead m1
    have:=(hkids x hx).2
    have:=qqf hO.nodup (a:=m) (b:=i) (by omega) (by omega) (by rw[← m3,he,hpi])
    omega
   have hnS':∀ j,OrN (fun j=>∃ x,∃ hx:x<e[i].kids.length,At e ps e[i].kids[x].toNat j) (H.length+1) j→j≠p:=by
    rintro j (hj | hj)
    ·exact hnS j hj
    ·omega
   have hp2:H2[p]? = some (nb e[i] (.list (e[i].binds.map qa4) ob) (.list ((e[i].kids.map fun k:Int=>ps.getD k.toNat 0).map qbp) ok) (.list avs oa)):=by
    rw[c5 p hp0.2 (fun hh=>hnS p hh rfl)]
    exact n1
   have hlp2:=hlt hp2
   cases hws with
   | mk op' n' binds' kids' alts' _ psq obq okq avsq oaq hpq hboxq haq hlq hkq =>
   have hw3:WS (H2.set p (.box [.int .i64 op',.int .i64 n',.list (binds'.map qa4) obq,.list (psq.map qbp) okq,.list avsq oaq])) (fun _=>True) (.mk op' n' binds' kids' alts') p :=
    .mk _ _ _ _ _ _ psq obq okq avsq oaq trivial (hgs hlp2) haq hlq fun x hx=>((hkq x hx).frame fun j hj=>Go.Abs.hgn (fun e=>hnS' j hj e.symm)).mono fun _ _=>trivial
   have hglob:=glob hT hO hil (t':=.mk op' n' binds' kids' alts') (by rw[hpi];exact hw3) (fun k hk hb=>by
    have hkp:ps.getD k 0≠p:=fun he=>by
     have:=qqf hO.nodup (a:=k) (b:=i) (by omega) (by omega) (by rw[he,hpi])
     subst this
     exact hb (.refl _)
    have hkl:=hO.low (ps.getD k 0) (by rw[List.getD_eq_getElem?_getD,List.getElem?_eq_getElem (by omega)];exact List.getElem_mem _)
    rw[Go.Abs.hgn (fun e=>hkp e.symm),c5 _ hkl.2]
    rintro ⟨x,hx,m,m1,m2,m3⟩
    have:=qqf hO.nodup (a:=k) (b:=m) (by omega) (by omega) m3
    subst this
    exact hb (.step (hkids x hx).1 m1)) (e.length-1) (by omega) (by
     by_cases hie:e.length-1=i
     ·exact .inl hie
     ·exact .inr fun hb=>by have:=qpC hT.ahead hb;omega)
   obtain⟨b1,b2,b3⟩:=qwH hT.ahead i hil (.mk op' n' binds' kids' alts') f1 420 f3 (fun k hk=>qot hz hf k hk) (e.length-1) (by omega)
   have hroot:=(qrp hz hf).2
   rw[qij] at hroot hdeep
   have hsz:qbA (qeu e i (.mk op' n' binds' kids' alts') (e.length-1))<2 ^ 30:=by
    rw[hroot] at b2
    have:e.length*qbA (.mk op' n' binds' kids' alts')≤4096*20000:=Nat.mul_le_mul hn4 f2
    omega
   generalize hTT:qeu e i (.mk op' n' binds' kids' alts') (e.length-1)=T at *
   have hw3':(H2.set p (.box [.int .i64 op',.int .i64 n',.list (binds'.map qa4) obq,.list (psq.map qbp) okq,.list avsq oaq]))[1]? = some (.box [.list (ps.map qbp) ow,qbp (ps.getD (e.length-1) 0)]):=by
    rw[Go.Abs.hgn (by omega),c5 1 (hlt hw0)]
    ·exact hw0
    ·rintro ⟨x,hx,m,m1,m2,m3⟩
     have:=hO.low (ps.getD m 0) (by rw[List.getD_eq_getElem?_getD,List.getElem?_eq_getElem (by omega)];exact List.getElem_mem _)
     omega
   have hvw:=qsZ hw3' rfl hglob (by omega)
   have hls:=hR.list T b1 hsz
   have hck2:=qmr hR.toCLib (qcR T) (by unfold qcR;rw[qeJ];exact hsz) (qp5 T 0 b1)
   have hdL:=qbu (qcR T)
   obtain⟨tc,htc,hdt⟩:=qdT T
   rw[htc] at hvw hls
   rw[show qbp 1=.ptr (some (1,0)) from rfl] at c1
   unfold nb at hp2
   unfold qoQ
   dsimp only
   rw[hTT]
   by_cases hz2:qb6 (qcR T)=0
   ·rw[if_pos hz2]
    rw[hz2] at hck2
    generalize qbO _ 1999 _=X at hvw
    unfold fn283
    simp -implicitDefEqProofs only[qam,qad,qaL,qae,qab,qar,qac,qap,qah,aOp,opd,qak,qaW,qal,qag,qaV,qba,qcb,qa8,aEq,qan,qaj,qax,qay,qbr,qbE,qaE,leaf,qau,qaY,qaR,qaS,qao,qaw,qaI,qa2,qaT,qaN,qbc,qbx,qbw,qc1,qbv,qaa,qaQ,qav,qat,beq_self_eq_true,Option.map_some,Option.getD_some,List.map_cons,List.map_nil,List.length_cons,List.length_nil,List.length_map,List.nil_append,List.append_nil,List.getElem?_cons_zero,List.getElem?_cons_succ,List.take_succ_cons,List.take_zero,List.drop_succ_cons,List.drop_zero,List.take_nil,List.drop_nil,List.all_cons,List.all_nil,↓reduceIte,Bool.and_true,Bool.not_true,Bool.false_eq_true,decide_false,and_self,Nat.le_refl,reduceCtorEq,Nat.add_zero,Nat.zero_add,Nat.reduceEqDiff,Nat.reduceAdd,Int.toNat_natCast,Int.natCast_nonneg,qaC,qaM,ge_iff_le,gt_iff_lt,qnn,qa3,qaD,hck,hr1,hr2,ha1,ha2,hdE,c1,hH0,hw0,hgn,c2,hboxq,hp2,qqm,hvw,hls,hdt,hdL,hck2,qbv,qaK L hp,hp,List.map_nil,bne]
   ·have hne2:(qb6 (qcR T)==0)=false:=by simpa using hz2
    rw[if_neg hz2]
    generalize qbO _ 1999 _=X at hvw
    generalize qb6 (qcR T)=rr at *
    unfold fn283
    simp -implicitDefEqProofs only[qam,qad,qaL,qae,qab,qar,qac,qap,qah,aOp,opd,qak,qaW,qal,qag,qaV,qba,qcb,qa8,aEq,qan,qaj,qax,qay,qbr,qbE,qaE,leaf,qau,qaY,qaR,qaS,qao,qaw,qaI,qa2,qaT,qaN,qbc,qbx,qbw,qc1,qbv,qaa,qaQ,qav,qat,beq_self_eq_true,Option.map_some,Option.getD_some,List.map_cons,List.map_nil,List.length_cons,List.length_nil,List.length_map,List.nil_append,List.append_nil,List.getElem?_cons_zero,List.getElem?_cons_succ,List.take_succ_cons,List.take_zero,List.drop_succ_cons,List.drop_zero,List.take_nil,List.drop_nil,List.all_cons,List.all_nil,↓reduceIte,Bool.and_true,Bool.not_true,Bool.not_false,Bool.false_eq_true,decide_false,and_self,Nat.le_refl,reduceCtorEq,Nat.add_zero,Nat.zero_add,Nat.reduceEqDiff,Nat.reduceAdd,Int.toNat_natCast,Int.natCast_nonneg,qaC,qaM,ge_iff_le,gt_iff_lt,qnn,qa3,qaD,hck,hr1,hr2,ha1,ha2,hdE,c1,hH0,hw0,hgn,c2,hboxq,hp2,qqm,hvw,hls,hdt,hdL,hck2,hne2,qbv,qaK L hp,hp,List.map_nil,bne]
end
end Go.Abs
