/-
  PARTS OF A PROOF, joined: an abstract machine for quiet code, its evaluation, and what the seat's functions answer on it. Conditions: none.
-/
import Derived.Test.YtpchghpipgpkfaaDoorRwL
import Derived.Test.YtpchghpipgpkfaaDoorHF
import Derived.Test.YtpchghpipgpkfaaDoorD
import Derived.Test.YtpchghpipgpkfaaDoorZ
set_option linter.unusedVariables false
set_option linter.unusedSimpArgs false
set_option maxRecDepth 100000
set_option maxHeartbeats 4000000
namespace Go.Abs
theorem qkX (id:Int) {v b:CTree} (hv:TFit v) (hb:TFit b):TFit (qma id v b) :=
 .mk _ _ _ _ _ (by simp) (by simp) (by simp) fun k hk=>by
  rcases List.mem_cons.1 hk with rfl | hk
  ·exact hv
  ·rw[List.mem_singleton.1 hk];exact hb
theorem qiH (id:Int) (v b:CTree):qaJ (qma id v b)=qaJ v+qaJ b+1:=by
 unfold qma
 rw[qaJ,qaF,qaF,qaF]
 omega
theorem qk4 (id:Int) (v b:CTree):hgt (qma id v b)=max (hgt v) (hgt b)+1:=by
 unfold qma
 rw[hgt,qcS,qcS,qcS]
 omega
theorem qu5:∀ (ids:List Int) (vs:List CTree) (b:CTree),(∀ v∈vs,TFit v)→TFit b→TFit (qdX ids vs b)∧qaJ (qdX ids vs b)≤qaJ b+qaF vs+ids.length∧hgt (qdX ids vs b)≤max (qcS vs) (hgt b)+ids.length
 | [],vs,b,_,hb => by
   have:qdX [] vs b=b:=by cases vs<;>rfl
   rw[this]
   exact⟨hb,by omega,by omega⟩
 | id :: ids,[],b,_,hb => by
   have:qdX (id::ids) [] b=b:=rfl
   rw[this]
   exact⟨hb,by rw[List.length_cons];omega,by omega⟩
 | id :: ids,v :: vs,b,hv,hb => by
   obtain⟨h1,h2,h3⟩:=qu5 ids vs b (fun x hx=>hv x (by simp[hx])) hb
   rw[qdX]
   refine⟨qkX id (hv v (by simp)) h1,?_,?_⟩
   ·rw[qiH,qaF,List.length_cons];omega
   ·rw[qk4,qcS,List.length_cons];omega
mutual
theorem qoa (id:Int) (A:CTree) (hA:TFit A):∀ b:CTree,TFit b→ShT b→TFit (qdq id A b)∧qaJ (qdq id A b)≤qaJ b+qhs id b*qaJ A∧hgt (qdq id A b)≤hgt b+hgt A
 | .mk op n binds kids alts,hb,hs => by
   cases hb with
   | mk _ _ _ _ _ h1 h2 h3 h4 =>
   cases hs with
   | mk _ _ _ _ _ hsh hsk =>
   rw[qdq]
   by_cases hc:op=0∧n=id
   ·rw[if_pos hc]
    refine⟨hA,?_,by omega⟩
    rw[qhs,if_pos hc.1,if_pos hc.2]
    omega
   ·rw[if_neg hc]
    obtain⟨g1,g2,g3⟩:=qpS id A hA kids h4 hsk
    have hl:(qdD id A kids).length=kids.length:=by rw[qen,List.length_map]
    refine⟨.mk _ _ _ _ _ h1 (by omega) h3 g1,?_,?_⟩
    ·rw[qaJ,qaJ,qhs]
     by_cases h0:op=0
     ·have hk0:kids=[]:=List.length_eq_zero_iff.1 (qpI (h0 ▸ hsh))
      subst hk0
      rw[qdD,qaF]
      omega
     ·rw[if_neg h0]
      omega
    ·rw[hgt,hgt]
     omega
theorem qpS (id:Int) (A:CTree) (hA:TFit A):∀ ks:List CTree,(∀ k∈ks,TFit k)→(∀ k∈ks,ShT k)→(∀ k∈qdD id A ks,TFit k)∧qaF (qdD id A ks)≤qaF ks+qeS id ks*qaJ A∧qcS (qdD id A ks)≤qcS ks+hgt A
 | [],_,_ => by
   refine⟨fun k hk=>(by rw[qdD] at hk;cases hk),?_,?_⟩
   ·rw[qdD,qaF];omega
   ·rw[qdD,qcS];omega
 | k :: ks,hf,hs => by
   obtain⟨h1,h2,h3⟩:=qoa id A hA k (hf k (by simp)) (hs k (by simp))
   obtain⟨g1,g2,g3⟩:=qpS id A hA ks (fun x hx=>hf x (by simp[hx])) (fun x hx=>hs x (by simp[hx]))
   rw[qdD]
   refine⟨fun x hx=>?_,?_,?_⟩
   ·rcases List.mem_cons.1 hx with rfl | hx
    ·exact h1
    ·exact g1 x hx
   ·rw[qaF,qaF,qeS,Nat.add_mul];omega
   ·rw[qcS,qcS];omega
end
theorem qmD {op n:Int} {binds:List Int} {kids:List CTree} {alts:List CAlt} (h:TGood (.mk op n binds kids alts)):binds.length≤16∧∀ a∈alts,a.binds.length≤16:=by
 have hl:=h.lab ⟨op,n,binds,kids.map qce,alts⟩ (by rw[qbg];simp)
 obtain⟨_,h2⟩:=qdb hl
 have hf:=qfS h2
 obtain⟨f1,f2⟩:=qh7 alts (binds.length:Int)
 exact⟨by have:=f1;dsimp only at hf;omega,fun a ha=>by have:=f2 a ha;dsimp only at hf;omega⟩
def qwG (t t':CTree):Prop:=TFit t'∧qaJ t'≤20000∧hgt t'≤hgt t+420
theorem qnz {op n:Int} {binds:List Int} {kids:List CTree} {alts:List CAlt} (h:TGood (.mk op n binds kids alts)) {k:CTree} (hk:k∈kids):qwG (.mk op n binds kids alts) k:=by
 have g:=h.kid hk
 exact⟨g.fit,by have:=g.size;omega,by have:=g.deep;omega⟩
theorem quC (t:CTree) (op n:Int):qwG t (.mk op n [] [] []) :=
 ⟨.mk _ _ _ _ _ (by simp) (by simp) (by simp) (fun k hk=>by cases hk),by rw[qaJ,qaF];omega,by rw[hgt,qcS];omega⟩
theorem qjw (n:Int):∀ (rb:List Int) (rk:List CTree) {t':CTree},qcJ n rb rk=some t'→t'∈rk
 | [],rk,t',h=>by cases rk<;>cases h
 | l::rb,[],t',h=>by cases h
 | l :: rb,k :: rk,t',h => by
   rw[qcJ] at h
   split at h
   ·injection h with h
    rw[h]
    simp
   ·exact List.mem_cons_of_mem _ (qjw n rb rk h)
theorem qh5 (cn:Int) (ck:List CTree) (c:CTree):∀ (as:List CAlt) (bs:List CTree) {t':CTree},qbI cn ck c as bs=some t'→(∃ a∈as,∃ b∈bs,a.binds.length=ck.length∧t'=qdX a.binds ck b)∨t'∈bs
 | [],bs,t',h=>by cases bs<;>cases h
 | a::as,[],t',h=>by cases h
 | a :: as,b :: bs,t',h => by
   rw[qbI] at h
   split at h
   ·split at h
    ·cases h
    ·rename_i hl
     injection h with h
     exact .inl ⟨a,by simp,b,by simp,by simpa using hl,h.symm⟩
   ·split at h
    ·injection h with h
     exact .inr (by rw[h];simp)
    ·rcases qh5 cn ck c as bs h with ⟨a',h1,b',h2,h3⟩ | h1
     ·exact .inl ⟨a',by simp[h1],b',by simp[h2],h3⟩
     ·exact .inr (by simp[h1])
theorem qoE {t b:CTree} {ids:List Int} {vs:List CTree} (hi:ids.length≤16) (hv:∀ v∈vs,TFit v) (hb:TFit b) (hs:qaF vs+qaJ b≤10000) (h1:qcS vs≤hgt t) (h2:hgt b≤hgt t):qwG t (qdX ids vs b):=by
 obtain⟨g1,g2,g3⟩:=qu5 ids vs b hv hb
 exact⟨g1,by omega,by omega⟩
theorem qo5 (rule n:Int) (binds:List Int) (kids:List CTree) (alts:List CAlt) (hg:TGood (.mk 4 n binds kids alts)) {t':CTree} (h:qeb rule (.mk 4 n binds kids alts)=some t'):qwG (.mk 4 n binds kids alts) t':=by
 obtain⟨sk,sb,_,_⟩:=qcE hg.shape rfl
 obtain⟨v,body,rfl⟩:=qhL sk
 obtain⟨id,rfl⟩:=qhK sb
 have gv:=hg.kid (k:=v) (by simp)
 have gb:=hg.kid (k:=body) (by simp)
 have hsz:=hg.size
 have hh:hgt (.mk 4 n [id] [v,body] alts)=max (hgt v) (hgt body)+1:=by rw[hgt,qcS,qcS,qcS];omega
 have hs:qaJ (.mk 4 n [id] [v,body] alts)=qaJ v+qaJ body+1:=by rw[qaJ,qaF,qaF,qaF];omega
 rw[hs] at hsz
 have hdeep:=hg.deep
 rw[hh] at hdeep
 have hocc:=qvj id body
 obtain⟨vo,vn,vb,vk,va⟩:=v
 rw[qdw] at h
 split at h
 ·rename_i hc
  injection h with h
  subst h
  obtain⟨e1,e2,e3⟩:=qmr hc.2 gv.shape
  subst e1 e2 e3
  obtain⟨g1,g2,g3⟩:=qoa id _ gv.fit body gb.fit gb.sh
  have e1:qaJ (.mk vo vn [] [] [])=1:=by rw[qaJ,qaF]
  have e2:hgt (.mk vo vn [] [] [])=1:=by rw[hgt,qcS]
  rw[e1] at g2
  rw[e2] at g3
  exact⟨g1,by omega,by rw[hh];omega⟩
 ·split at h
  ·injection h with h
   subst h
   exact qnz hg (by simp)
  ·split at h
   ·rename_i hc
    injection h with h
    subst h
    obtain⟨_,rfl⟩:=hc
    obtain⟨sk,_⟩:=qcE gv.shape rfl
    obtain⟨k0,k1,rfl⟩:=qhL sk
    have g0:=gv.kid (k:=k0) (by simp)
    have g1:=gv.kid (k:=k1) (by simp)
    have hv1:qaJ (.mk 4 vn vb [k0,k1] va)=qaJ k0+qaJ k1+1:=by rw[qaJ,qaF,qaF,qaF];omega
    have hv2:hgt (.mk 4 vn vb [k0,k1] va)=max (hgt k0) (hgt k1)+1:=by rw[hgt,qcS,qcS,qcS];omega
    show qwG _ (qma _ k0 (qma id k1 body))
    refine⟨qkX _ g0.fit (qkX _ g1.fit gb.fit),?_,?_⟩
    ·rw[qiH,qiH];omega
    ·rw[qk4,qk4,hh];omega
   ·split at h
    ·rename_i hc
     injection h with h
     subst h
     obtain⟨_,rfl,hone⟩:=hc
     have sk:=(qdC gv.shape).1 (.inl rfl)
     rw[hone] at sk
     obtain⟨k0,k1,rfl⟩:=qhL sk
     have g0:=gv.kid (k:=k0) (by simp)
     have g1:=gv.kid (k:=k1) (by simp)
     have hv1:qaJ (.mk 7 vn vb [k0,k1] va)=qaJ k0+qaJ k1+1:=by rw[qaJ,qaF,qaF,qaF];omega
     have hv2:hgt (.mk 7 vn vb [k0,k1] va)=max (hgt k0) (hgt k1)+1:=by rw[hgt,qcS,qcS,qcS];omega
     show qwG _ (.mk 7 0 [] [k0,qma id k1 body] va)
     refine⟨.mk _ _ _ _ _ ?_ (by simp) (by omega) fun k hk=>?_,?_,?_⟩
     ·have:=gv.fit
      cases this with
      | mk _ _ _ _ _ hb _ _ _=>rw[List.length_append] at hb;rw[List.nil_append];omega
     ·rcases List.mem_cons.1 hk with rfl | hk
      ·exact g0.fit
      ·rw[List.mem_singleton.1 hk]
       exact qkX _ g1.fit gb.fit
     ·rw[qaJ,qaF,qaF,qaF,qiH];omega
     ·rw[hgt,qcS,qcS,qcS,qk4,hh];omega
    ·split at h
     ·rename_i hc
      injection h with h
      subst h
      obtain⟨g1,g2,g3⟩:=qoa id _ gv.fit body gb.fit gb.sh
      rw[hc.2.2,Nat.one_mul] at g2
      exact⟨g1,by omega,by have:=gv.deep;rw[hh];omega⟩
     ·cases h
theorem qsv (t:CTree) (n a b:Int) {t':CTree} (h:qeY n a b=some t'):qwG t t':=by
 unfold qeY at h
 repeat' (first | (injection h with h;subst h;exact quC t _ _) | (cases h;done) | split at h)
theorem qse (rule N:Int) (t:CTree) (hg:TGood t) {t':CTree} (h:qiO rule N t=some t'):qwG t t':=by
 obtain⟨op,n,binds,kids,alts⟩:=t
 rw[qiO] at h
 have hsh:=hg.shape
 have hsz:=hg.size
 have hdp:=hg.deep
 split at h
 ·cases h
 split at h
 ·rename_i hc
  obtain⟨_,rfl,h2,h3⟩:=hc
  have hkpos:0<kids.length:=(qcm hsh).2.1 (by simp)
  obtain⟨k0,ks,rfl⟩:∃ k0 ks,kids=k0::ks:=by
   cases kids with
   | nil=>simp at hkpos
   | cons a l=>exact⟨a,l,rfl⟩
  have g0:=hg.kid (k:=k0) (by simp)
  obtain⟨o0,n0,b0,kk0,a0⟩:=k0
  have h2:o0=2:=h2
  subst h2
  have hk1:=(qcm g0.shape).1 rfl
  obtain⟨kb,rfl⟩:=qhK hk1
  have gb:=g0.kid (k:=kb) (by simp)
  have h:some (qdX b0 ks kb)=some t':=h
  injection h with h
  subst h
  have hb16:=(qmD g0).1
  rw[qaJ,qaF] at hsz
  have hkb:qaJ (.mk 2 n0 b0 [kb] a0)=qaJ kb+1:=by rw[qaJ,qaF,qaF];first | done | omega
  have hkh:hgt (.mk 2 n0 b0 [kb] a0)=hgt kb+1:=by rw[hgt,qcS,qcS];first | done | omega
  have hh:hgt (.mk 3 n binds (.mk 2 n0 b0 [kb] a0::ks) alts)=max (hgt kb+1) (qcS ks)+1:=by rw[hgt,qcS,hkh]
  exact qoE hb16 (fun v hv=>(hg.kid (k:=v) (by simp[hv])).fit) gb.fit (by omega) (by rw[hh];omega) (by rw[hh];omega)
 split at h
 ·rename_i hc
  subst hc
  exact qo5 rule n binds kids alts hg h
 split at h
 ·rename_i hc
  injection h with h
  subst h
  have:=qdT hsh hc.2.1
  refine qnz hg ?_
  rw[List.getD_eq_getElem?_getD,List.getElem?_eq_getElem (by omega)]
  exact List.getElem_mem _
 split at h
 ·rename_i hc
  obtain⟨_,rfl,h2⟩:=hc
  have hka:=(qdC hsh).1 (.inl rfl)
  obtain⟨k0,ks,rfl⟩:∃ k0 ks,kids=k0::ks:=by
   cases kids with
   | nil=>simp at hka
   | cons a l=>exact⟨a,l,rfl⟩
  have g0:=hg.kid (k:=k0) (by simp)
  obtain⟨o0,n0,b0,kk0,a0⟩:=k0
  rw[qe3] at h
  rcases qh5 _ _ _ _ _ h with ⟨a,h1,b,h3,h4,rfl⟩ | h1
  ·have gb:=hg.kid (k:=b) (by simp[h3])
   have hb16:=(qmD hg).2 a h1
   have hsb:=qjl h3
   have hhb:=qdK h3
   rw[qaJ,qaF] at hsz
   have e1:qaJ (.mk o0 n0 b0 kk0 a0)=qaF kk0+1:=by rw[qaJ]
   have e2:hgt (.mk o0 n0 b0 kk0 a0)=qcS kk0+1:=by rw[hgt]
   have hh:hgt (.mk 7 n binds (.mk o0 n0 b0 kk0 a0::ks) alts)=max (qcS kk0+1) (qcS ks)+1:=by rw[hgt,qcS,e2]
   exact qoE hb16 (fun v hv=>(g0.kid hv).fit) gb.fit (by omega) (by rw[hh];omega) (by rw[hh];omega)
  ·exact qnz hg (by simp[h1])
 split at h
 ·rename_i hc
  obtain⟨k0,k1,rfl⟩:=qhL hc.2.2
  obtain⟨o0,a,b0,kk0,a0⟩:=k0
  obtain⟨o1,b,b1,kk1,a1⟩:=k1
  rw[qgd] at h
  split at h
  ·cases h
  ·exact qsv _ n a b h
 split at h
 ·rename_i hc
  obtain⟨_,rfl⟩:=hc
  obtain⟨k0,rfl⟩:=qhK (qiG hsh)
  have g0:=hg.kid (k:=k0) (by simp)
  obtain⟨ro,rn,rb,rk,ra⟩:=k0
  rw[qgn] at h
  split at h
  ·cases h
  ·have hm:=qjw _ _ _ h
   have gk:=g0.kid hm
   have:=qdK hm
   have hh:hgt (.mk 10 n binds [.mk ro rn rb rk ra] alts)=qcS rk+1+1:=by rw[hgt,qcS,qcS,hgt];omega
   exact⟨gk.fit,by have:=gk.size;omega,by have:=gk.deep;omega⟩
 ·cases h
theorem qn2 {e:List CExpr} (hA:qdr e) (i:Nat) (hi:i<e.length) (t':CTree) (hf:TFit t') (d:Nat) (hd:hgt t'≤hgt (qaG e i)+d) (hfe:∀ k,k<e.length→TFit (qaG e k)) :
  ∀ k,k<e.length→TFit (qbF e i t' k)∧qaJ (qbF e i t' k)≤qaJ (qaG e k)*qaJ t'∧hgt (qbF e i t' k)≤hgt (qaG e k)+d:=by
 intro k
 induction k using Nat.strongRecOn with
 | ind k ih =>
   intro hk
   have hpos:=qfo t'
   rw[qfm e hA i t' k hk]
   by_cases hki:k=i
   ·rw[if_pos hki]
    subst hki
    refine⟨hf,?_,hd⟩
    have:=qfo (qaG e k)
    exact Nat.le_mul_of_pos_left _ this
   ·rw[if_neg hki]
    have h1:=hfe k hk
    rw[qb0 e hA k hk] at h1 ⊢
    cases h1 with
    | mk _ _ _ _ _ b1 b2 b3 b4 =>
    have hkid:∀ q∈e[k].kids,q.toNat<k:=fun q hq=>by have:=hA k hk q hq;omega
    have key:∀ l:List Int,(∀ q∈l,q.toNat<k)→(∀ x∈l.map fun q=>qbF e i t' q.toNat,TFit x)∧qaF (l.map fun q=>qbF e i t' q.toNat)≤qaF (l.map fun q=>qaG e q.toNat)*qaJ t'∧qcS (l.map fun q=>qbF e i t' q.toNat)≤qcS (l.map fun q=>qaG e q.toNat)+d:=by
     intro l
     induction l with
     | nil =>
       intro _
       refine⟨fun x hx=>(by cases hx),?_,?_⟩
       ·rw[List.map_nil,List.map_nil,qaF];omega
       ·rw[List.map_nil,List.map_nil,qcS];omega
     | cons q l ih2 =>
       intro hq
       obtain⟨g1,g2,g3⟩:=ih q.toNat (hq q (by simp)) (by have:=hq q (by simp);omega)
       obtain⟨j1,j2,j3⟩:=ih2 fun x hx=>hq x (by simp[hx])
       rw[List.map_cons,List.map_cons]
       refine⟨fun x hx=>?_,?_,?_⟩
       ·rcases List.mem_cons.1 hx with rfl | hx
        ·exact g1
        ·exact j1 x hx
       ·rw[qaF,qaF,Nat.add_mul];omega
       ·rw[qcS,qcS];omega
    obtain⟨j1,j2,j3⟩:=key e[k].kids hkid
    refine⟨.mk _ _ _ _ _ b1 (by rw[List.length_map] at b2 ⊢;exact b2) b3 j1,?_,?_⟩
    ·rw[qaJ,qaJ,Nat.add_mul,Nat.one_mul];omega
    ·rw[hgt,hgt];omega
theorem qyN (t:CTree):(∀ l∈qbg t,qbL false l=0)→ShT t:=by
 induction t using CTree.ind with
 | h op n binds kids alts ih =>
   intro hl
   rw[qbg] at hl
   have h1:=qu3 (hl ⟨op,n,binds,kids.map qce,alts⟩ (by simp))
   dsimp only at h1
   rw[List.length_map] at h1
   exact .mk _ _ _ _ _ h1 fun k hk=>ih k hk fun l hm=>hl l (List.mem_append_left _ (qlo hk l hm))
theorem qeR {e:List CExpr} (hz:qaD e=0) (hf:∀ x∈e,NodeFit x) (k:Nat) (hk:k<e.length):TGood (qaG e k):=by
 have hT:=(qa8 hz).1
 have h:=qoe (qpV hz) (qsf hT k hk)
 exact⟨qgE hz hf k hk,qyN _ h.lab,h.deep,h.size,h.lab⟩
end Go.Abs
set_option maxHeartbeats 8000000
namespace Go.Abs
def qc0 (e:List CExpr) (i:Nat):Option CTree→List CExpr × Int
 | none=>([],12)
 | some t'=>if qaD (qau (qbF e i t' (e.length-1)))=0 then (qau (qbF e i t' (e.length-1)),0) else ([],2)
def qku (e:List CExpr) (rule at' N:Int):List CExpr × Int :=
 if qaD e=0 then (if rule<1∨12<rule then ([],4) else if at'<0∨(e.length:Int)≤at' then ([],12) else qc0 e at'.toNat (qiO rule N (qaG e at'.toNat))) else ([],qaD e)
theorem qwr {H:Heap} {S:Nat→Prop} {w r:Nat} {a:AVal} {T:CTree} (hw:H[w]? = some (.box [a,qar r])) (ha:leaf a=true) (hT:WS H S T r) (hh:hgt T≤900):viewV H (.ptr (some (w,0)))=.vptr [qaV H 1999 a,qao T] 0:=by
 unfold viewV
 rw[show (2000:Nat)=1999+1 from rfl,qaV,if_neg (by simp[qaH])]
 unfold qcx
 dsimp only
 rw[hw]
 dsimp only
 rw[if_pos (by rw[List.all_cons,ha];rfl),List.map_cons,List.map_cons,List.map_nil,hT.view 1999 (by omega)]
section
variable {L:Lib} (hR:RLib L)
include hR
theorem qwM (e:List CExpr) (hl:e.length<2 ^ 30) (hf:∀ x∈e,NodeFit x) (rule at' N:Int) (hr:rule≠10∧rule≠12) (h:Heap) :
  pcall L 283 [.list (e.map qam) none,.agg [.int .i64 rule,.int .i64 at',.int .i64 N]] h=some (.val (.tuple [.list ((qku e rule at' N).1.map qam) none,.int .i64 (qku e rule at' N).2]),h):=by
 have hL:=hR.plain
 have hp:=hL.pure
 have hdE:=qaI e
 have hck:=qcW hR.toCLib e hl hf
 refine qaX hL hR.f283 (by simp only[qaH,qax,qaI,Bool.and_self]) ?_ h
 unfold qku
 by_cases hz:qaD e=0
 case neg =>
  have hne:(qaD e != 0)=true:=by simpa using hz
  rw[if_neg hz]
  dsimp only
  generalize qaD e=r at *
  unfold fn283
  simp -implicitDefEqProofs only[ev_,aOp,opd,qaa,qaB,qaA,qab,qan,qac,qae,qaj,↓reduceIte,reduceCtorEq,Nat.reduceEqDiff,qaw,qak,hck,hne,hdE,qal L hp,hp,List.map_nil]
 rw[if_pos hz]
 rw[hz] at hck
 by_cases hr1:rule<1
 ·rw[if_pos (.inl hr1)]
  unfold fn283
  simp -implicitDefEqProofs only[ev_,aOp,opd,qaa,qaB,qaA,qab,qaf,qag,qai,qan,qac,qae,qaj,↓reduceIte,reduceCtorEq,Nat.reduceEqDiff,qaw,qak,hck,hr1,hdE,qal L hp,hp,List.map_nil,bne]
 by_cases hr2:12<rule
 ·rw[if_pos (.inr hr2)]
  unfold fn283
  simp -implicitDefEqProofs only[ev_,aOp,opd,qaa,qaB,qaA,qab,qaf,qag,qai,qan,qac,qae,qaj,↓reduceIte,reduceCtorEq,Nat.reduceEqDiff,gt_iff_lt,qaw,qak,hck,hr1,hr2,hdE,qal L hp,hp,List.map_nil,bne]
 rw[if_neg (by omega)]
 by_cases ha1:at'<0
 ·rw[if_pos (.inl ha1)]
  unfold fn283
  simp -implicitDefEqProofs only[ev_,aOp,opd,qaa,qaB,qaA,qab,qaf,qag,qai,qan,qac,qae,qaj,↓reduceIte,reduceCtorEq,Nat.reduceEqDiff,gt_iff_lt,qaw,qak,hck,hr1,hr2,ha1,hdE,qal L hp,hp,List.map_nil,bne]
 by_cases ha2:(e.length:Int)≤at'
 ·rw[if_pos (.inr ha2)]
  unfold fn283
  simp -implicitDefEqProofs only[ev_,aOp,opd,qaa,qaB,qbd,qaA,qab,qaf,qag,qai,qan,qac,qae,qaj,↓reduceIte,reduceCtorEq,Nat.reduceEqDiff,ge_iff_le,gt_iff_lt,qaw,qak,hck,hr1,hr2,ha1,ha2,hdE,qal L hp,hp,List.map_nil,bne]
 rw[if_neg (by omega)]
 obtain⟨i,hi⟩:∃ i:Nat,at'=(i:Int):=⟨at'.toNat,by omega⟩
 subst hi
 have hil:i<e.length:=by omega
 rw[Int.toNat_natCast]
 obtain⟨hT,hn4,hdeep,_⟩:=qa8 hz
 have hpos:=hT.pos
 obtain⟨H,ps,ow,c1,hO,hke⟩:=qnT hL hR.f293 e hl hpos hf hT.ahead [.box [.int .i64 rule,.int .i64 (i:Int),.int .i64 N]]
 rw[List.length_singleton] at c1 hO hke
 have hH0:H[0]? = some (.box [.int .i64 rule,.int .i64 (i:Int),.int .i64 N]):=by rw[hke 0 (by omega)];rfl
 have hps:=hO.len
 have hgi:ps.getD i 0=ps[i]'(by omega):=by rw[List.getD_eq_getElem?_getD,List.getElem?_eq_getElem (by omega)];rfl
 have hgn:(ps.map qar)[i]? = some (.ptr (some (ps.getD i 0,0))):=by rw[List.getElem?_map,List.getElem?_eq_getElem (by omega),hgi];rfl
 obtain⟨ob,ok,avs,oa,n1,n2⟩:=hO.node i hil (by omega)
 rw[← hgi] at n1
 have hp0:=hO.low (ps.getD i 0) (by rw[hgi];exact List.getElem_mem _)
 have hgood:=qeR hz hf i hil
 have hte:=qb0 e hT.ahead i hil
 have hkids:∀ x (hx:x<e[i].kids.length),e[i].kids[x].toNat∈qbm e i∧e[i].kids[x].toNat<i:=fun x hx=>by
  have:=hT.ahead i hil _ (List.getElem_mem hx)
  refine⟨?_,by omega⟩
  unfold qbm
  rw[List.getElem?_eq_getElem hil]
  exact List.mem_map_of_mem (List.getElem_mem hx)
 have hres:=qvZ hR (.ptr (some (1,0))) rule (i:Int) N hr e[i].op e[i].n e[i].binds (e[i].kids.map fun k:Int=>qaG e k.toNat) e[i].alts (by rw[← hte];exact hgood) H (ps.getD i 0) (e[i].kids.map fun k:Int=>ps.getD k.toNat 0) ob ok oa avs
  (fun x q=>∃ hx:x<e[i].kids.length,At e ps e[i].kids[x].toNat q) n1 n2 (by simp) (fun x hx=>by
   rw[List.length_map] at hx
   rw[List.getElem_map,List.getElem_map]
   exact (hO.ws hT.ahead _ (by have:=(hkids x hx).2;omega)).mono fun q hq=>⟨hx,hq⟩)
  (fun x y q hxy ⟨hx,m,m1,m2,m3⟩ ⟨hy,m',m1',m2',m3'⟩=>by
   have:=qjH hO.nodup (a:=m) (b:=m') (by omega) (by omega) (by rw[← m3,← m3'])
   subst this
   refine qtW hT (hkids x hx).1 (hkids y hy).1 (fun he=>?_) m1 m1'
   have h1:=hT.ahead i hil _ (List.getElem_mem hx)
   have h2:=hT.ahead i hil _ (List.getElem_mem hy)
   exact quZ hT hil hx hy hxy (by omega))
  (fun x q ⟨hx,hq⟩=>At.lt hO hq)
 rw[← hte] at hres
 obtain⟨H2,r,c2,c3,c4,c5⟩:=hres
 have hw0:H[1]? = some (.box [.list (ps.map qar) ow,qar (ps.getD (e.length-1) 0)]):=hO.work
 generalize hpi:ps.getD i 0=p at *
 cases hq:qiO rule N (qaG e i) with
 | none =>
   rw[hq] at c3
   have hrn:r=.ptr none:=c3
   subst hrn
   unfold qc0
   dsimp only
   rw[show qar 1=.ptr (some (1,0)) from rfl] at c1
   unfold fn283
   simp -implicitDefEqProofs only[ev_,aOp,opd,qaa,qaB,qbd,qaA,aEq,qad,qab,qaf,qag,qaS,qai,qan,qac,qae,qaj,qaz,↓reduceIte,reduceCtorEq,Nat.reduceEqDiff,Nat.reduceAdd,ge_iff_le,gt_iff_lt,qaw,qak,Option.isNone_none,hck,hr1,hr2,ha1,ha2,hdE,c1,hH0,hw0,hgn,c2,qal L hp,hp,List.map_nil,bne]
 | some t' =>
   rw[hq] at c3
   obtain⟨q,rfl,hws⟩:=c3
   obtain⟨f1,f2,f3⟩:=qse rule N _ hgood hq
   have hnS:∀ j,(∃ x,∃ hx:x<e[i].kids.length,At e ps e[i].kids[x].toNat j)→j≠p:=by
    rintro j ⟨x,hx,m,m1,m2,m3⟩ he
    have hm:=qky hT.ahead m1
    have:=(hkids x hx).2
    have:=qjH hO.nodup (a:=m) (b:=i) (by omega) (by omega) (by rw[← m3,he,hpi])
    omega
   have hnS':∀ j,OrN (fun j=>∃ x,∃ hx:x<e[i].kids.length,At e ps e[i].kids[x].toNat j) (H.length+1) j→j≠p:=by
    rintro j (hj | hj)
    ·exact hnS j hj
    ·omega
   have hp2:H2[p]? = some (nb e[i] (.list (e[i].binds.map qav) ob) (.list ((e[i].kids.map fun k:Int=>ps.getD k.toNat 0).map qar) ok) (.list avs oa)):=by
    rw[c5 p hp0.2 (fun hh=>hnS p hh rfl)]
    exact n1
   have hlp2:=hlt hp2
   cases hws with
   | mk op' n' binds' kids' alts' _ psq obq okq avsq oaq hpq hboxq haq hlq hkq =>
   have hw3:WS (H2.set p (.box [.int .i64 op',.int .i64 n',.list (binds'.map qav) obq,.list (psq.map qar) okq,.list avsq oaq])) (fun _=>True) (.mk op' n' binds' kids' alts') p :=
    .mk _ _ _ _ _ _ psq obq okq avsq oaq trivial (hgs hlp2) haq hlq fun x hx=>((hkq x hx).frame fun j hj=>Go.Abs.hgn (fun e=>hnS' j hj e.symm)).mono fun _ _=>trivial
   have hglob:=glob hT hO hil (t':=.mk op' n' binds' kids' alts') (by rw[hpi];exact hw3) (fun k hk hb=>by
    have hkp:ps.getD k 0≠p:=fun he=>by
     have:=qjH hO.nodup (a:=k) (b:=i) (by omega) (by omega) (by rw[he,hpi])
     subst this
     exact hb (.refl _)
    have hkl:=hO.low (ps.getD k 0) (by rw[List.getD_eq_getElem?_getD,List.getElem?_eq_getElem (by omega)];exact List.getElem_mem _)
    rw[Go.Abs.hgn (fun e=>hkp e.symm),c5 _ hkl.2]
    rintro ⟨x,hx,m,m1,m2,m3⟩
    have:=qjH hO.nodup (a:=k) (b:=m) (by omega) (by omega) m3
    subst this
    exact hb (.step (hkids x hx).1 m1)) (e.length-1) (by omega) (by
     by_cases hie:e.length-1=i
     ·exact .inl hie
     ·exact .inr fun hb=>by have:=qky hT.ahead hb;omega)
   obtain⟨b1,b2,b3⟩:=qn2 hT.ahead i hil (.mk op' n' binds' kids' alts') f1 420 f3 (fun k hk=>qgE hz hf k hk) (e.length-1) (by omega)
   have hroot:=(qdO hz hf).2
   rw[qdJ] at hroot hdeep
   have hsz:qaJ (qbF e i (.mk op' n' binds' kids' alts') (e.length-1))<2 ^ 30:=by
    rw[hroot] at b2
    have:e.length*qaJ (.mk op' n' binds' kids' alts')≤4096*20000:=Nat.mul_le_mul hn4 f2
    omega
   generalize hTT:qbF e i (.mk op' n' binds' kids' alts') (e.length-1)=T at *
   have hw3':(H2.set p (.box [.int .i64 op',.int .i64 n',.list (binds'.map qav) obq,.list (psq.map qar) okq,.list avsq oaq]))[1]? = some (.box [.list (ps.map qar) ow,qar (ps.getD (e.length-1) 0)]):=by
    rw[Go.Abs.hgn (by omega),c5 1 (hlt hw0)]
    ·exact hw0
    ·rintro ⟨x,hx,m,m1,m2,m3⟩
     have:=hO.low (ps.getD m 0) (by rw[List.getD_eq_getElem?_getD,List.getElem?_eq_getElem (by omega)];exact List.getElem_mem _)
     omega
   have hvw:=qwr hw3' rfl hglob (by omega)
   have hls:=hR.list T b1 hsz
   have hck2:=qcW hR.toCLib (qau T) (by unfold qau;rw[qcv];exact hsz) (qec T 0 b1)
   have hdL:=qaI (qau T)
   obtain⟨tc,htc,hdt⟩:=qbC T
   rw[htc] at hvw hls
   rw[show qar 1=.ptr (some (1,0)) from rfl] at c1
   unfold nb at hp2
   unfold qc0
   dsimp only
   rw[hTT]
   by_cases hz2:qaD (qau T)=0
   ·rw[if_pos hz2]
    rw[hz2] at hck2
    generalize qaV _ 1999 _=X at hvw
    unfold fn283
    simp -implicitDefEqProofs only[ev_,aOp,opd,qaa,qay,qaB,qbd,qaA,aEq,qad,qab,qaf,qag,qaT,qaS,qai,leaf,qat,qan,qac,qae,qaj,qaz,↓reduceIte,reduceCtorEq,Nat.reduceEqDiff,Nat.reduceAdd,ge_iff_le,gt_iff_lt,qaw,qak,hck,hr1,hr2,ha1,ha2,hdE,c1,hH0,hw0,hgn,c2,hboxq,hp2,qf2,hvw,hls,hdt,hdL,hck2,qcV,qal L hp,hp,List.map_nil,bne]
   ·have hne2:(qaD (qau T)==0)=false:=by simpa using hz2
    rw[if_neg hz2]
    generalize qaV _ 1999 _=X at hvw
    generalize qaD (qau T)=rr at *
    unfold fn283
    simp -implicitDefEqProofs only[ev_,aOp,opd,qaa,qay,qaB,qbd,qaA,aEq,qad,qab,qaf,qag,qaT,qaS,qai,leaf,qat,qan,qac,qae,qaj,qaz,↓reduceIte,reduceCtorEq,Nat.reduceEqDiff,Nat.reduceAdd,ge_iff_le,gt_iff_lt,qaw,qak,hck,hr1,hr2,ha1,ha2,hdE,c1,hH0,hw0,hgn,c2,hboxq,hp2,qf2,hvw,hls,hdt,hdL,hck2,hne2,qcV,qal L hp,hp,List.map_nil,bne]
end
def twI:AVal→Bool
 | .int .i64 _=>true
 | _=>false
def twP (f:Nat) (args:List AVal) (h:Heap):Option (ARes × Heap) :=
 if f=188 then
  (match args with
  | [.list xs none]=>if (xs.all twI && decide (xs.length<2 ^ 30))=true then (if xs.isEmpty=true then some (.val (.list [] none),h) else some (.val (.vec h.length xs.length),h++[.vec xs 1])) else none
  | _=>none)
 else if f=138 then
  (match args with
  | [.list [] none]=>some (.val (.tuple []),h)
  | _=>none)
 else none
def twN:AVal→Int
 | .int _ n=>n
 | _=>0
theorem qBU {xs:List AVal} (h:xs.all twI=true):xs=(xs.map twN).map qav:=by
 induction xs with
 | nil=>rfl
 | cons x xs ih =>
   rw[List.all_cons,Bool.and_eq_true] at h
   rw[List.map_cons,List.map_cons,← ih h.2]
   congr 1
   obtain⟨h1,_⟩:=h
   unfold twI at h1
   split at h1
   ·rfl
   ·cases h1
theorem qBV {L:Lib} (hM:MPrims L) (h0:∀ h:Heap,call L 138 [.list [] none] h=some (.val (.tuple []),h)):∀ f a h r,twP f a h=some r→call L f a h=some r:=by
 intro f a h r hr
 unfold twP at hr
 split at hr
 ·rename_i hf
  subst hf
  split at hr
  ·rename_i xs
   split at hr
   ·rename_i hc
    rw[Bool.and_eq_true,decide_eq_true_eq] at hc
    have hx:=qBU hc.1
    have hl:(xs.map twN).length<2 ^ 30:=by rw[List.length_map];exact hc.2
    have hcl:=hM.clone (xs.map twN) h hl
    rw[← hx] at hcl
    split at hr
    ·rename_i he
     have:xs=[]:=by simpa using he
     subst this
     rw[hcl,← hr,List.map_nil,qsG,qsF,List.append_nil]
    ·rename_i he
     have hne:xs.map twN≠[]:=by
      intro e
      have:xs=[]:=by simpa using e
      subst this
      exact he rfl
     rw[hcl,← hr,qkM hne,qkJ hne,← hx,List.length_map]
   ·cases hr
  ·cases hr
 ·split at hr
  ·rename_i hf
   subst hf
   split at hr
   ·injection hr with hr
    rw[← hr]
    exact h0 h
   ·cases hr
  ·cases hr
theorem qnN {α β:Type} [BEq α] [LawfulBEq α] {l:List (α × β)} {a:α} {b:β} (h:l.lookup a=some b):(a,b)∈l:=by
 induction l with
 | nil=>cases h
 | cons p l ih =>
   obtain⟨x,y⟩:=p
   rw[List.lookup_cons] at h
   by_cases hx:(a==x)=true
   ·rw[hx] at h
    injection h with h
    rw[eq_of_beq hx,h]
    exact List.mem_cons_self
   ·have hx':(a==x)=false:=by simpa using hx
    rw[hx'] at h
    exact List.mem_cons_of_mem _ (ih h)
theorem qzc {L:Lib} (hL:Plain L) (hM:MPrims L) (h0:∀ h:Heap,call L 138 [.list [] none] h=some (.val (.tuple []),h)) {T:List (Nat × AFn)} (hT:∀ p∈T,L.fns p.1=some p.2) {n f:Nat} (hc:qxx (.bool true) (qtz (fun f=>List.lookup f T) twP n f [] [])=true) (h:Heap) :
  pcall L f [] h=some (.val (.bool true),h):=by
 obtain⟨H,hr⟩:=qxy hc
 have:=qyu (L:=L) hL.pure hL.summ (fun f=>List.lookup f T) twP (fun f fn hf=>hT _ (qnN hf)) (qBV hM h0) n f [] [] _ hr
 exact qcM this rfl rfl h
section
end
end Go.Abs
