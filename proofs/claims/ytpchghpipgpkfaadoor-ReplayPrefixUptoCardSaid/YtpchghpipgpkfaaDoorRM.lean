/-
  PARTS OF A PROOF, joined: an abstract machine for quiet code, its evaluation, and what the seat's functions answer on it. Conditions: none.
-/
import Derived.Test.YtpchghpipgpkfaaDoorRwL
import Derived.Test.YtpchghpipgpkfaaDoorHI
import Derived.Test.YtpchghpipgpkfaaDoorD
import Derived.Test.YtpchghpipgpkfaaDoorZ
set_option linter.unusedVariables false
set_option linter.unusedSimpArgs false
set_option maxRecDepth 100000
set_option maxHeartbeats 4000000
namespace Go.Abs
theorem qlH (id:Int) {v b:CTree} (hv:TFit v) (hb:TFit b):TFit (qn1 id v b) :=
 .mk _ _ _ _ _ (by simp) (by simp) (by simp) fun k hk=>by
  rcases List.mem_cons.1 hk with rfl | hk
  ·exact hv
  ·rw[List.mem_singleton.1 hk];exact hb
theorem qiP (id:Int) (v b:CTree):qaP (qn1 id v b)=qaP v+qaP b+1:=by
 unfold qn1
 rw[qaP,qaC,qaC,qaC]
 omega
theorem qlL (id:Int) (v b:CTree):hgt (qn1 id v b)=max (hgt v) (hgt b)+1:=by
 unfold qn1
 rw[hgt,qdk,qdk,qdk]
 omega
theorem qst:∀ (ids:List Int) (vs:List CTree) (b:CTree),(∀ v∈vs,TFit v)→TFit b→TFit (qeZ ids vs b)∧qaP (qeZ ids vs b)≤qaP b+qaC vs+ids.length∧hgt (qeZ ids vs b)≤max (qdk vs) (hgt b)+ids.length
 | [],vs,b,_,hb => by
   have:qeZ [] vs b=b:=by cases vs<;>rfl
   rw[this]
   exact⟨hb,by omega,by omega⟩
 | id :: ids,[],b,_,hb => by
   have:qeZ (id::ids) [] b=b:=rfl
   rw[this]
   exact⟨hb,by rw[List.length_cons];omega,by omega⟩
 | id :: ids,v :: vs,b,hv,hb => by
   obtain⟨h1,h2,h3⟩:=qst ids vs b (fun x hx=>hv x (by simp[hx])) hb
   rw[qeZ]
   refine⟨qlH id (hv v (by simp)) h1,?_,?_⟩
   ·rw[qiP,qaC,List.length_cons];omega
   ·rw[qlL,qdk,List.length_cons];omega
mutual
theorem qmf (id:Int) (A:CTree) (hA:TFit A):∀ b:CTree,TFit b→ShT b→TFit (qeV id A b)∧qaP (qeV id A b)≤qaP b+qiq id b*qaP A∧hgt (qeV id A b)≤hgt b+hgt A
 | .mk op n binds kids alts,hb,hs => by
   cases hb with
   | mk _ _ _ _ _ h1 h2 h3 h4 =>
   cases hs with
   | mk _ _ _ _ _ hsh hsk =>
   rw[qeV]
   by_cases hc:op=0∧n=id
   ·rw[if_pos hc]
    refine⟨hA,?_,by omega⟩
    rw[qiq,if_pos hc.1,if_pos hc.2]
    omega
   ·rw[if_neg hc]
    obtain⟨g1,g2,g3⟩:=qnI id A hA kids h4 hsk
    have hl:(qc0 id A kids).length=kids.length:=by rw[qhN,List.length_map]
    refine⟨.mk _ _ _ _ _ h1 (by omega) h3 g1,?_,?_⟩
    ·rw[qaP,qaP,qiq]
     by_cases h0:op=0
     ·have hk0:kids=[]:=List.length_eq_zero_iff.1 (qny (h0 ▸ hsh))
      subst hk0
      rw[qc0,qaC]
      omega
     ·rw[if_neg h0]
      omega
    ·rw[hgt,hgt]
     omega
theorem qnI (id:Int) (A:CTree) (hA:TFit A):∀ ks:List CTree,(∀ k∈ks,TFit k)→(∀ k∈ks,ShT k)→(∀ k∈qc0 id A ks,TFit k)∧qaC (qc0 id A ks)≤qaC ks+qfk id ks*qaP A∧qdk (qc0 id A ks)≤qdk ks+hgt A
 | [],_,_ => by
   refine⟨fun k hk=>(by rw[qc0] at hk;cases hk),?_,?_⟩
   ·rw[qc0,qaC];omega
   ·rw[qc0,qdk];omega
 | k :: ks,hf,hs => by
   obtain⟨h1,h2,h3⟩:=qmf id A hA k (hf k (by simp)) (hs k (by simp))
   obtain⟨g1,g2,g3⟩:=qnI id A hA ks (fun x hx=>hf x (by simp[hx])) (fun x hx=>hs x (by simp[hx]))
   rw[qc0]
   refine⟨fun x hx=>?_,?_,?_⟩
   ·rcases List.mem_cons.1 hx with rfl | hx
    ·exact h1
    ·exact g1 x hx
   ·rw[qaC,qaC,qfk,Nat.add_mul];omega
   ·rw[qdk,qdk];omega
end
theorem qkQ {op n:Int} {binds:List Int} {kids:List CTree} {alts:List CAlt} (h:TGood (.mk op n binds kids alts)):binds.length≤16∧∀ a∈alts,a.binds.length≤16:=by
 have hl:=h.lab ⟨op,n,binds,kids.map qdd,alts⟩ (by rw[qcP];simp)
 obtain⟨_,h2⟩:=qqI hl
 have hf:=qhi h2
 obtain⟨f1,f2⟩:=qji alts (binds.length:Int)
 exact⟨by have:=f1;dsimp only at hf;omega,fun a ha=>by have:=f2 a ha;dsimp only at hf;omega⟩
def qvx (t t':CTree):Prop:=TFit t'∧qaP t'≤20000∧hgt t'≤hgt t+420
theorem qlG {op n:Int} {binds:List Int} {kids:List CTree} {alts:List CAlt} (h:TGood (.mk op n binds kids alts)) {k:CTree} (hk:k∈kids):qvx (.mk op n binds kids alts) k:=by
 have g:=h.kid hk
 exact⟨g.fit,by have:=g.size;omega,by have:=g.deep;omega⟩
theorem qr3 (t:CTree) (op n:Int):qvx t (.mk op n [] [] []) :=
 ⟨.mk _ _ _ _ _ (by simp) (by simp) (by simp) (fun k hk=>by cases hk),by rw[qaP,qaC];omega,by rw[hgt,qdk];omega⟩
theorem qh1 (n:Int):∀ (rb:List Int) (rk:List CTree) {t':CTree},qex n rb rk=some t'→t'∈rk
 | [],rk,t',h=>by cases rk<;>cases h
 | l::rb,[],t',h=>by cases h
 | l :: rb,k :: rk,t',h => by
   rw[qex] at h
   split at h
   ·injection h with h
    rw[h]
    simp
   ·exact List.mem_cons_of_mem _ (qh1 n rb rk h)
theorem qgN (cn:Int) (ck:List CTree) (c:CTree):∀ (as:List CAlt) (bs:List CTree) {t':CTree},qbU cn ck c as bs=some t'→(∃ a∈as,∃ b∈bs,a.binds.length=ck.length∧t'=qeZ a.binds ck b)∨t'∈bs
 | [],bs,t',h=>by cases bs<;>cases h
 | a::as,[],t',h=>by cases h
 | a :: as,b :: bs,t',h => by
   rw[qbU] at h
   split at h
   ·split at h
    ·cases h
    ·rename_i hl
     injection h with h
     exact .inl ⟨a,by simp,b,by simp,by simpa using hl,h.symm⟩
   ·split at h
    ·injection h with h
     exact .inr (by rw[h];simp)
    ·rcases qgN cn ck c as bs h with ⟨a',h1,b',h2,h3⟩ | h1
     ·exact .inl ⟨a',by simp[h1],b',by simp[h2],h3⟩
     ·exact .inr (by simp[h1])
theorem qmH {t b:CTree} {ids:List Int} {vs:List CTree} (hi:ids.length≤16) (hv:∀ v∈vs,TFit v) (hb:TFit b) (hs:qaC vs+qaP b≤10000) (h1:qdk vs≤hgt t) (h2:hgt b≤hgt t):qvx t (qeZ ids vs b):=by
 obtain⟨g1,g2,g3⟩:=qst ids vs b hv hb
 exact⟨g1,by omega,by omega⟩
theorem qm1 (rule n:Int) (binds:List Int) (kids:List CTree) (alts:List CAlt) (hg:TGood (.mk 4 n binds kids alts)) {t':CTree} (h:qhc rule (.mk 4 n binds kids alts)=some t'):qvx (.mk 4 n binds kids alts) t':=by
 obtain⟨sk,sb,_,_⟩:=qfp hg.shape rfl
 obtain⟨v,body,rfl⟩:=qlQ sk
 obtain⟨id,rfl⟩:=qm3 sb
 have gv:=hg.kid (k:=v) (by simp)
 have gb:=hg.kid (k:=body) (by simp)
 have hsz:=hg.size
 have hh:hgt (.mk 4 n [id] [v,body] alts)=max (hgt v) (hgt body)+1:=by rw[hgt,qdk,qdk,qdk];omega
 have hs:qaP (.mk 4 n [id] [v,body] alts)=qaP v+qaP body+1:=by rw[qaP,qaC,qaC,qaC];omega
 rw[hs] at hsz
 have hdeep:=hg.deep
 rw[hh] at hdeep
 have hocc:=qsD id body
 obtain⟨vo,vn,vb,vk,va⟩:=v
 rw[qjC] at h
 split at h
 ·rename_i hc
  injection h with h
  subst h
  obtain⟨e1,e2,e3⟩:=qkE hc.2 gv.shape
  subst e1 e2 e3
  obtain⟨g1,g2,g3⟩:=qmf id _ gv.fit body gb.fit gb.sh
  have e1:qaP (.mk vo vn [] [] [])=1:=by rw[qaP,qaC]
  have e2:hgt (.mk vo vn [] [] [])=1:=by rw[hgt,qdk]
  rw[e1] at g2
  rw[e2] at g3
  exact⟨g1,by omega,by rw[hh];omega⟩
 ·split at h
  ·injection h with h
   subst h
   exact qlG hg (by simp)
  ·split at h
   ·rename_i hc
    injection h with h
    subst h
    obtain⟨_,rfl⟩:=hc
    obtain⟨sk,_⟩:=qfp gv.shape rfl
    obtain⟨k0,k1,rfl⟩:=qlQ sk
    have g0:=gv.kid (k:=k0) (by simp)
    have g1:=gv.kid (k:=k1) (by simp)
    have hv1:qaP (.mk 4 vn vb [k0,k1] va)=qaP k0+qaP k1+1:=by rw[qaP,qaC,qaC,qaC];omega
    have hv2:hgt (.mk 4 vn vb [k0,k1] va)=max (hgt k0) (hgt k1)+1:=by rw[hgt,qdk,qdk,qdk];omega
    show qvx _ (qn1 _ k0 (qn1 id k1 body))
    refine⟨qlH _ g0.fit (qlH _ g1.fit gb.fit),?_,?_⟩
    ·rw[qiP,qiP];omega
    ·rw[qlL,qlL,hh];omega
   ·split at h
    ·rename_i hc
     injection h with h
     subst h
     obtain⟨_,rfl,hone⟩:=hc
     have sk:=(qdw gv.shape).1 (.inl rfl)
     rw[hone] at sk
     obtain⟨k0,k1,rfl⟩:=qlQ sk
     have g0:=gv.kid (k:=k0) (by simp)
     have g1:=gv.kid (k:=k1) (by simp)
     have hv1:qaP (.mk 7 vn vb [k0,k1] va)=qaP k0+qaP k1+1:=by rw[qaP,qaC,qaC,qaC];omega
     have hv2:hgt (.mk 7 vn vb [k0,k1] va)=max (hgt k0) (hgt k1)+1:=by rw[hgt,qdk,qdk,qdk];omega
     show qvx _ (.mk 7 0 [] [k0,qn1 id k1 body] va)
     refine⟨.mk _ _ _ _ _ ?_ (by simp) (by omega) fun k hk=>?_,?_,?_⟩
     ·have:=gv.fit
      cases this with
      | mk _ _ _ _ _ hb _ _ _=>rw[List.length_append] at hb;rw[List.nil_append];omega
     ·rcases List.mem_cons.1 hk with rfl | hk
      ·exact g0.fit
      ·rw[List.mem_singleton.1 hk]
       exact qlH _ g1.fit gb.fit
     ·rw[qaP,qaC,qaC,qaC,qiP];omega
     ·rw[hgt,qdk,qdk,qdk,qlL,hh];omega
    ·split at h
     ·rename_i hc
      injection h with h
      subst h
      obtain⟨g1,g2,g3⟩:=qmf id _ gv.fit body gb.fit gb.sh
      rw[hc.2.2,Nat.one_mul] at g2
      exact⟨g1,by omega,by have:=gv.deep;rw[hh];omega⟩
     ·cases h
theorem qqb (t:CTree) (n a b:Int) {t':CTree} (h:qhU n a b=some t'):qvx t t':=by
 unfold qhU at h
 repeat' (first | (injection h with h;subst h;exact qr3 t _ _) | (cases h;done) | split at h)
theorem qpY (rule N:Int) (t:CTree) (hg:TGood t) {t':CTree} (h:qvd rule N t=some t'):qvx t t':=by
 obtain⟨op,n,binds,kids,alts⟩:=t
 rw[qvd] at h
 have hsh:=hg.shape
 have hsz:=hg.size
 have hdp:=hg.deep
 split at h
 ·cases h
 split at h
 ·rename_i hc
  obtain⟨_,rfl,h2,h3⟩:=hc
  have hkpos:0<kids.length:=(qem hsh).2.1 (by simp)
  obtain⟨k0,ks,rfl⟩:∃ k0 ks,kids=k0::ks:=by
   cases kids with
   | nil=>simp at hkpos
   | cons a l=>exact⟨a,l,rfl⟩
  have g0:=hg.kid (k:=k0) (by simp)
  obtain⟨o0,n0,b0,kk0,a0⟩:=k0
  have h2:o0=2:=h2
  subst h2
  have hk1:=(qem g0.shape).1 rfl
  obtain⟨kb,rfl⟩:=qm3 hk1
  have gb:=g0.kid (k:=kb) (by simp)
  have h:some (qeZ b0 ks kb)=some t':=h
  injection h with h
  subst h
  have hb16:=(qkQ g0).1
  rw[qaP,qaC] at hsz
  have hkb:qaP (.mk 2 n0 b0 [kb] a0)=qaP kb+1:=by rw[qaP,qaC,qaC];first | done | omega
  have hkh:hgt (.mk 2 n0 b0 [kb] a0)=hgt kb+1:=by rw[hgt,qdk,qdk];first | done | omega
  have hh:hgt (.mk 3 n binds (.mk 2 n0 b0 [kb] a0::ks) alts)=max (hgt kb+1) (qdk ks)+1:=by rw[hgt,qdk,hkh]
  exact qmH hb16 (fun v hv=>(hg.kid (k:=v) (by simp[hv])).fit) gb.fit (by omega) (by rw[hh];omega) (by rw[hh];omega)
 split at h
 ·rename_i hc
  subst hc
  exact qm1 rule n binds kids alts hg h
 split at h
 ·rename_i hc
  injection h with h
  subst h
  have:=qfq hsh hc.2.1
  refine qlG hg ?_
  rw[List.getD_eq_getElem?_getD,List.getElem?_eq_getElem (by omega)]
  exact List.getElem_mem _
 split at h
 ·rename_i hc
  obtain⟨_,rfl,h2⟩:=hc
  have hka:=(qdw hsh).1 (.inl rfl)
  obtain⟨k0,ks,rfl⟩:∃ k0 ks,kids=k0::ks:=by
   cases kids with
   | nil=>simp at hka
   | cons a l=>exact⟨a,l,rfl⟩
  have g0:=hg.kid (k:=k0) (by simp)
  obtain⟨o0,n0,b0,kk0,a0⟩:=k0
  rw[qkJ] at h
  rcases qgN _ _ _ _ _ h with ⟨a,h1,b,h3,h4,rfl⟩ | h1
  ·have gb:=hg.kid (k:=b) (by simp[h3])
   have hb16:=(qkQ hg).2 a h1
   have hsb:=qlo h3
   have hhb:=qeF h3
   rw[qaP,qaC] at hsz
   have e1:qaP (.mk o0 n0 b0 kk0 a0)=qaC kk0+1:=by rw[qaP]
   have e2:hgt (.mk o0 n0 b0 kk0 a0)=qdk kk0+1:=by rw[hgt]
   have hh:hgt (.mk 7 n binds (.mk o0 n0 b0 kk0 a0::ks) alts)=max (qdk kk0+1) (qdk ks)+1:=by rw[hgt,qdk,e2]
   exact qmH hb16 (fun v hv=>(g0.kid hv).fit) gb.fit (by omega) (by rw[hh];omega) (by rw[hh];omega)
  ·exact qlG hg (by simp[h1])
 split at h
 ·rename_i hc
  obtain⟨k0,k1,rfl⟩:=qlQ hc.2.2
  obtain⟨o0,a,b0,kk0,a0⟩:=k0
  obtain⟨o1,b,b1,kk1,a1⟩:=k1
  rw[qmu] at h
  split at h
  ·cases h
  ·exact qqb _ n a b h
 split at h
 ·rename_i hc
  obtain⟨_,rfl⟩:=hc
  obtain⟨k0,rfl⟩:=qm3 (qj0 hsh)
  have g0:=hg.kid (k:=k0) (by simp)
  obtain⟨ro,rn,rb,rk,ra⟩:=k0
  rw[qmF] at h
  split at h
  ·cases h
  ·have hm:=qh1 _ _ _ h
   have gk:=g0.kid hm
   have:=qeF hm
   have hh:hgt (.mk 10 n binds [.mk ro rn rb rk ra] alts)=qdk rk+1+1:=by rw[hgt,qdk,qdk,hgt];omega
   exact⟨gk.fit,by have:=gk.size;omega,by have:=gk.deep;omega⟩
 ·cases h
theorem qs8 {e:List CExpr} (hA:qeW e) (i:Nat) (hi:i<e.length) (t':CTree) (hf:TFit t') (d:Nat) (hd:hgt t'≤hgt (qbm e i)+d) (hfe:∀ k,k<e.length→TFit (qbm e k)) :
  ∀ k,k<e.length→TFit (qcQ e i t' k)∧qaP (qcQ e i t' k)≤qaP (qbm e k)*qaP t'∧hgt (qcQ e i t' k)≤hgt (qbm e k)+d:=by
 intro k
 induction k using Nat.strongRecOn with
 | ind k ih =>
   intro hk
   have hpos:=qfu t'
   rw[qnt e hA i t' k hk]
   by_cases hki:k=i
   ·rw[if_pos hki]
    subst hki
    refine⟨hf,?_,hd⟩
    have:=qfu (qbm e k)
    exact Nat.le_mul_of_pos_left _ this
   ·rw[if_neg hki]
    have h1:=hfe k hk
    rw[qcM e hA k hk] at h1 ⊢
    cases h1 with
    | mk _ _ _ _ _ b1 b2 b3 b4 =>
    have hkid:∀ q∈e[k].kids,q.toNat<k:=fun q hq=>by have:=hA k hk q hq;omega
    have key:∀ l:List Int,(∀ q∈l,q.toNat<k)→(∀ x∈l.map fun q=>qcQ e i t' q.toNat,TFit x)∧qaC (l.map fun q=>qcQ e i t' q.toNat)≤qaC (l.map fun q=>qbm e q.toNat)*qaP t'∧qdk (l.map fun q=>qcQ e i t' q.toNat)≤qdk (l.map fun q=>qbm e q.toNat)+d:=by
     intro l
     induction l with
     | nil =>
       intro _
       refine⟨fun x hx=>(by cases hx),?_,?_⟩
       ·rw[List.map_nil,List.map_nil,qaC];omega
       ·rw[List.map_nil,List.map_nil,qdk];omega
     | cons q l ih2 =>
       intro hq
       obtain⟨g1,g2,g3⟩:=ih q.toNat (hq q (by simp)) (by have:=hq q (by simp);omega)
       obtain⟨j1,j2,j3⟩:=ih2 fun x hx=>hq x (by simp[hx])
       rw[List.map_cons,List.map_cons]
       refine⟨fun x hx=>?_,?_,?_⟩
       ·rcases List.mem_cons.1 hx with rfl | hx
        ·exact g1
        ·exact j1 x hx
       ·rw[qaC,qaC,Nat.add_mul];omega
       ·rw[qdk,qdk];omega
    obtain⟨j1,j2,j3⟩:=key e[k].kids hkid
    refine⟨.mk _ _ _ _ _ b1 (by rw[List.length_map] at b2 ⊢;exact b2) b3 j1,?_,?_⟩
    ·rw[qaP,qaP,Nat.add_mul,Nat.one_mul];omega
    ·rw[hgt,hgt];omega
theorem qyM (t:CTree):(∀ l∈qcP t,qb5 false l=0)→ShT t:=by
 induction t using CTree.ind with
 | h op n binds kids alts ih =>
   intro hl
   rw[qcP] at hl
   have h1:=qsq (hl ⟨op,n,binds,kids.map qdd,alts⟩ (by simp))
   dsimp only at h1
   rw[List.length_map] at h1
   exact .mk _ _ _ _ _ h1 fun k hk=>ih k hk fun l hm=>hl l (List.mem_append_left _ (qjJ hk l hm))
theorem qov {e:List CExpr} (hz:qaJ e=0) (hf:∀ x∈e,NodeFit x) (k:Nat) (hk:k<e.length):TGood (qbm e k):=by
 have hT:=(qbo hz).1
 have h:=qx2 (qyO hz) (qyN hT k hk)
 exact⟨qj3 hz hf k hk,qyM _ h.lab,h.deep,h.size,h.lab⟩
end Go.Abs
set_option maxHeartbeats 8000000
namespace Go.Abs
def qlw (e:List CExpr) (i:Nat):Option CTree→List CExpr × Int
 | none=>([],12)
 | some t'=>if qaJ (qaQ (qcQ e i t' (e.length-1)))=0 then (qaQ (qcQ e i t' (e.length-1)),0) else ([],2)
def qbq (e:List CExpr) (rule at' N:Int):List CExpr × Int :=
 if qaJ e=0 then (if rule<1∨12<rule then ([],4) else if at'<0∨(e.length:Int)≤at' then ([],12) else qlw e at'.toNat (qvd rule N (qbm e at'.toNat))) else ([],qaJ e)
theorem qtx {H:Heap} {S:Nat→Prop} {w r:Nat} {a:AVal} {T:CTree} (hw:H[w]? = some (.box [a,qaD r])) (ha:leaf a=true) (hT:WS H S T r) (hh:hgt T≤900):viewV H (.ptr (some (w,0)))=.vptr [qaX H 1999 a,qap T] 0:=by
 unfold viewV
 rw[show (2000:Nat)=1999+1 from rfl,qaX,if_neg (by simp[qaA])]
 unfold qc5
 dsimp only
 rw[hw]
 dsimp only
 rw[if_pos (by rw[List.all_cons,ha];rfl),List.map_cons,List.map_cons,List.map_nil,hT.view 1999 (by omega)]
section
variable {L:Lib} (hR:RLib L)
include hR
theorem qo9 (e:List CExpr) (hl:e.length<2 ^ 30) (hf:∀ x∈e,NodeFit x) (rule at' N:Int) (hr:rule≠10∧rule≠12) (h:Heap) :
  pcall L 283 [.list (e.map qam) none,.agg [.int .i64 rule,.int .i64 at',.int .i64 N]] h=some (.val (.tuple [.list ((qbq e rule at' N).1.map qam) none,.int .i64 (qbq e rule at' N).2]),h):=by
 have hL:=hR.plain
 have hp:=hL.pure
 have hdE:=qaE e
 have hck:=qdM hR.toCLib e hl hf
 refine qaW hL hR.f283 (by simp only[qaA,qay,qaE,Bool.and_self]) ?_ h
 unfold qbq
 by_cases hz:qaJ e=0
 case neg =>
  have hne:(qaJ e != 0)=true:=by simpa using hz
  rw[if_neg hz]
  dsimp only
  generalize qaJ e=r at *
  unfold fn283
  simp -implicitDefEqProofs only[ev_,aOp,opd,qaa,qax,qaw,qab,qan,qac,qae,qaj,↓reduceIte,reduceCtorEq,Nat.reduceEqDiff,qat,qak,hck,hne,hdE,qal L hp,hp,List.map_nil]
 rw[if_pos hz]
 rw[hz] at hck
 by_cases hr1:rule<1
 ·rw[if_pos (.inl hr1)]
  unfold fn283
  simp -implicitDefEqProofs only[ev_,aOp,opd,qaa,qax,qaw,qab,qaf,qag,qai,qan,qac,qae,qaj,↓reduceIte,reduceCtorEq,Nat.reduceEqDiff,qat,qak,hck,hr1,hdE,qal L hp,hp,List.map_nil,bne]
 by_cases hr2:12<rule
 ·rw[if_pos (.inr hr2)]
  unfold fn283
  simp -implicitDefEqProofs only[ev_,aOp,opd,qaa,qax,qaw,qab,qaf,qag,qai,qan,qac,qae,qaj,↓reduceIte,reduceCtorEq,Nat.reduceEqDiff,gt_iff_lt,qat,qak,hck,hr1,hr2,hdE,qal L hp,hp,List.map_nil,bne]
 rw[if_neg (by omega)]
 by_cases ha1:at'<0
 ·rw[if_pos (.inl ha1)]
  unfold fn283
  simp -implicitDefEqProofs only[ev_,aOp,opd,qaa,qax,qaw,qab,qaf,qag,qai,qan,qac,qae,qaj,↓reduceIte,reduceCtorEq,Nat.reduceEqDiff,gt_iff_lt,qat,qak,hck,hr1,hr2,ha1,hdE,qal L hp,hp,List.map_nil,bne]
 by_cases ha2:(e.length:Int)≤at'
 ·rw[if_pos (.inr ha2)]
  unfold fn283
  simp -implicitDefEqProofs only[ev_,aOp,opd,qaa,qax,qa7,qaw,qab,qaf,qag,qai,qan,qac,qae,qaj,↓reduceIte,reduceCtorEq,Nat.reduceEqDiff,ge_iff_le,gt_iff_lt,qat,qak,hck,hr1,hr2,ha1,ha2,hdE,qal L hp,hp,List.map_nil,bne]
 rw[if_neg (by omega)]
 obtain⟨i,hi⟩:∃ i:Nat,at'=(i:Int):=⟨at'.toNat,by omega⟩
 subst hi
 have hil:i<e.length:=by omega
 rw[Int.toNat_natCast]
 obtain⟨hT,hn4,hdeep,_⟩:=qbo hz
 have hpos:=hT.pos
 obtain⟨H,ps,ow,c1,hO,hke⟩:=qsJ hL hR.f293 e hl hpos hf hT.ahead [.box [.int .i64 rule,.int .i64 (i:Int),.int .i64 N]]
 rw[List.length_singleton] at c1 hO hke
 have hH0:H[0]? = some (.box [.int .i64 rule,.int .i64 (i:Int),.int .i64 N]):=by rw[hke 0 (by omega)];rfl
 have hps:=hO.len
 have hgi:ps.getD i 0=ps[i]'(by omega):=by rw[List.getD_eq_getElem?_getD,List.getElem?_eq_getElem (by omega)];rfl
 have hgn:(ps.map qaD)[i]? = some (.ptr (some (ps.getD i 0,0))):=by rw[List.getElem?_map,List.getElem?_eq_getElem (by omega),hgi];rfl
 obtain⟨ob,ok,avs,oa,n1,n2⟩:=hO.node i hil (by omega)
 rw[← hgi] at n1
 have hp0:=hO.low (ps.getD i 0) (by rw[hgi];exact List.getElem_mem _)
 have hgood:=qov hz hf i hil
 have hte:=qcM e hT.ahead i hil
 have hkids:∀ x (hx:x<e[i].kids.length),e[i].kids[x].toNat∈qbl e i∧e[i].kids[x].toNat<i:=fun x hx=>by
  have:=hT.ahead i hil _ (List.getElem_mem hx)
  refine⟨?_,by omega⟩
  unfold qbl
  rw[List.getElem?_eq_getElem hil]
  exact List.mem_map_of_mem (List.getElem_mem hx)
 have hres:=qs9 hR (.ptr (some (1,0))) rule (i:Int) N hr e[i].op e[i].n e[i].binds (e[i].kids.map fun k:Int=>qbm e k.toNat) e[i].alts (by rw[← hte];exact hgood) H (ps.getD i 0) (e[i].kids.map fun k:Int=>ps.getD k.toNat 0) ob ok oa avs
  (fun x q=>∃ hx:x<e[i].kids.length,At e ps e[i].kids[x].toNat q) n1 n2 (by simp) (fun x hx=>by
   rw[List.length_map] at hx
   rw[List.getElem_map,List.getElem_map]
   exact (hO.ws hT.ahead _ (by have:=(hkids x hx).2;omega)).mono fun q hq=>⟨hx,hq⟩)
  (fun x y q hxy ⟨hx,m,m1,m2,m3⟩ ⟨hy,m',m1',m2',m3'⟩=>by
   have:=qpV hO.nodup (a:=m) (b:=m') (by omega) (by omega) (by rw[← m3,← m3'])
   subst this
   refine qvU hT (hkids x hx).1 (hkids y hy).1 (fun he=>?_) m1 m1'
   have h1:=hT.ahead i hil _ (List.getElem_mem hx)
   have h2:=hT.ahead i hil _ (List.getElem_mem hy)
   exact qxB hT hil hx hy hxy (by omega))
  (fun x q ⟨hx,hq⟩=>At.lt hO hq)
 rw[← hte] at hres
 obtain⟨H2,r,c2,c3,c4,c5⟩:=hres
 have hw0:H[1]? = some (.box [.list (ps.map qaD) ow,qaD (ps.getD (e.length-1) 0)]):=hO.work
 generalize hpi:ps.getD i 0=p at *
 cases hq:qvd rule N (qbm e i) with
 | none =>
   rw[hq] at c3
   have hrn:r=.ptr none:=c3
   subst hrn
   unfold qlw
   dsimp only
   rw[show qaD 1=.ptr (some (1,0)) from rfl] at c1
   unfold fn283
   simp -implicitDefEqProofs only[ev_,aOp,opd,qaa,qax,qa7,qaw,aEq,qad,qab,qaf,qag,qaM,qai,qan,qac,qae,qaj,qaz,↓reduceIte,reduceCtorEq,Nat.reduceEqDiff,Nat.reduceAdd,ge_iff_le,gt_iff_lt,qat,qak,Option.isNone_none,hck,hr1,hr2,ha1,ha2,hdE,c1,hH0,hw0,hgn,c2,qal L hp,hp,List.map_nil,bne]
 | some t' =>
   rw[hq] at c3
   obtain⟨q,rfl,hws⟩:=c3
   obtain⟨f1,f2,f3⟩:=qpY rule N _ hgood hq
   have hnS:∀ j,(∃ x,∃ hx:x<e[i].kids.length,At e ps e[i].kids[x].toNat j)→j≠p:=by
    rintro j ⟨x,hx,m,m1,m2,m3⟩ he
    have hm:=qpe hT.ahead m1
    have:=(hkids x hx).2
    have:=qpV hO.nodup (a:=m) (b:=i) (by omega) (by omega) (by rw[← m3,he,hpi])
    omega
   have hnS':∀ j,OrN (fun j=>∃ x,∃ hx:x<e[i].kids.length,At e ps e[i].kids[x].toNat j) (H.length+1) j→j≠p:=by
    rintro j (hj | hj)
    ·exact hnS j hj
    ·omega
   have hp2:H2[p]? = some (nb e[i] (.list (e[i].binds.map qau) ob) (.list ((e[i].kids.map fun k:Int=>ps.getD k.toNat 0).map qaD) ok) (.list avs oa)):=by
    rw[c5 p hp0.2 (fun hh=>hnS p hh rfl)]
    exact n1
   have hlp2:=hlt hp2
   cases hws with
   | mk op' n' binds' kids' alts' _ psq obq okq avsq oaq hpq hboxq haq hlq hkq =>
   have hw3:WS (H2.set p (.box [.int .i64 op',.int .i64 n',.list (binds'.map qau) obq,.list (psq.map qaD) okq,.list avsq oaq])) (fun _=>True) (.mk op' n' binds' kids' alts') p :=
    .mk _ _ _ _ _ _ psq obq okq avsq oaq trivial (hgs hlp2) haq hlq fun x hx=>((hkq x hx).frame fun j hj=>Go.Abs.hgn (fun e=>hnS' j hj e.symm)).mono fun _ _=>trivial
   have hglob:=glob hT hO hil (t':=.mk op' n' binds' kids' alts') (by rw[hpi];exact hw3) (fun k hk hb=>by
    have hkp:ps.getD k 0≠p:=fun he=>by
     have:=qpV hO.nodup (a:=k) (b:=i) (by omega) (by omega) (by rw[he,hpi])
     subst this
     exact hb (.refl _)
    have hkl:=hO.low (ps.getD k 0) (by rw[List.getD_eq_getElem?_getD,List.getElem?_eq_getElem (by omega)];exact List.getElem_mem _)
    rw[Go.Abs.hgn (fun e=>hkp e.symm),c5 _ hkl.2]
    rintro ⟨x,hx,m,m1,m2,m3⟩
    have:=qpV hO.nodup (a:=k) (b:=m) (by omega) (by omega) m3
    subst this
    exact hb (.step (hkids x hx).1 m1)) (e.length-1) (by omega) (by
     by_cases hie:e.length-1=i
     ·exact .inl hie
     ·exact .inr fun hb=>by have:=qpe hT.ahead hb;omega)
   obtain⟨b1,b2,b3⟩:=qs8 hT.ahead i hil (.mk op' n' binds' kids' alts') f1 420 f3 (fun k hk=>qj3 hz hf k hk) (e.length-1) (by omega)
   have hroot:=(qd5 hz hf).2
   rw[qg5] at hroot hdeep
   have hsz:qaP (qcQ e i (.mk op' n' binds' kids' alts') (e.length-1))<2 ^ 30:=by
    rw[hroot] at b2
    have:e.length*qaP (.mk op' n' binds' kids' alts')≤4096*20000:=Nat.mul_le_mul hn4 f2
    omega
   generalize hTT:qcQ e i (.mk op' n' binds' kids' alts') (e.length-1)=T at *
   have hw3':(H2.set p (.box [.int .i64 op',.int .i64 n',.list (binds'.map qau) obq,.list (psq.map qaD) okq,.list avsq oaq]))[1]? = some (.box [.list (ps.map qaD) ow,qaD (ps.getD (e.length-1) 0)]):=by
    rw[Go.Abs.hgn (by omega),c5 1 (hlt hw0)]
    ·exact hw0
    ·rintro ⟨x,hx,m,m1,m2,m3⟩
     have:=hO.low (ps.getD m 0) (by rw[List.getD_eq_getElem?_getD,List.getElem?_eq_getElem (by omega)];exact List.getElem_mem _)
     omega
   have hvw:=qtx hw3' rfl hglob (by omega)
   have hls:=hR.list T b1 hsz
   have hck2:=qdM hR.toCLib (qaQ T) (by unfold qaQ;rw[qdS];exact hsz) (qiL T 0 b1)
   have hdL:=qaE (qaQ T)
   obtain⟨tc,htc,hdt⟩:=qbt T
   rw[htc] at hvw hls
   rw[show qaD 1=.ptr (some (1,0)) from rfl] at c1
   unfold nb at hp2
   unfold qlw
   dsimp only
   rw[hTT]
   by_cases hz2:qaJ (qaQ T)=0
   ·rw[if_pos hz2]
    rw[hz2] at hck2
    generalize qaX _ 1999 _=X at hvw
    unfold fn283
    simp -implicitDefEqProofs only[ev_,aOp,opd,qaa,qas,qax,qa7,qaw,aEq,qad,qab,qaf,qag,qaL,qaM,qai,leaf,qaq,qan,qac,qae,qaj,qaz,↓reduceIte,reduceCtorEq,Nat.reduceEqDiff,Nat.reduceAdd,ge_iff_le,gt_iff_lt,qat,qak,hck,hr1,hr2,ha1,ha2,hdE,c1,hH0,hw0,hgn,c2,hboxq,hp2,qp3,hvw,hls,hdt,hdL,hck2,qfv,qal L hp,hp,List.map_nil,bne]
   ·have hne2:(qaJ (qaQ T)==0)=false:=by simpa using hz2
    rw[if_neg hz2]
    generalize qaX _ 1999 _=X at hvw
    generalize qaJ (qaQ T)=rr at *
    unfold fn283
    simp -implicitDefEqProofs only[ev_,aOp,opd,qaa,qas,qax,qa7,qaw,aEq,qad,qab,qaf,qag,qaL,qaM,qai,leaf,qaq,qan,qac,qae,qaj,qaz,↓reduceIte,reduceCtorEq,Nat.reduceEqDiff,Nat.reduceAdd,ge_iff_le,gt_iff_lt,qat,qak,hck,hr1,hr2,ha1,ha2,hdE,c1,hH0,hw0,hgn,c2,hboxq,hp2,qp3,hvw,hls,hdt,hdL,hck2,hne2,qfv,qal L hp,hp,List.map_nil,bne]
end
def twI:AVal→Bool
 | .int .i64 _=>true
 | _=>false
def twP (f:Nat) (args:List AVal) (h:Heap):Option (ARes × Heap) :=
 if f=188 then
  (match args with
  | [.list xs none]=>if (xs.all twI && decide (xs.length<2 ^ 30))=true then (if xs.isEmpty=true then some (.val (.list [] none),h) else some (.val (.vec h.length xs.length),h++[.vec xs 1])) else none
  | _=>none)
 else if f=138 then
  (match args with
  | [.list [] none]=>some (.val (.tuple []),h)
  | _=>none)
 else none
def twN:AVal→Int
 | .int _ n=>n
 | _=>0
theorem qyP {xs:List AVal} (h:xs.all twI=true):xs=(xs.map twN).map qau:=by
 induction xs with
 | nil=>rfl
 | cons x xs ih =>
   rw[List.all_cons,Bool.and_eq_true] at h
   rw[List.map_cons,List.map_cons,← ih h.2]
   congr 1
   obtain⟨h1,_⟩:=h
   unfold twI at h1
   split at h1
   ·rfl
   ·cases h1
theorem qyQ {L:Lib} (hM:MPrims L) (h0:∀ h:Heap,call L 138 [.list [] none] h=some (.val (.tuple []),h)):∀ f a h r,twP f a h=some r→call L f a h=some r:=by
 intro f a h r hr
 unfold twP at hr
 split at hr
 ·rename_i hf
  subst hf
  split at hr
  ·rename_i xs
   split at hr
   ·rename_i hc
    rw[Bool.and_eq_true,decide_eq_true_eq] at hc
    have hx:=qyP hc.1
    have hl:(xs.map twN).length<2 ^ 30:=by rw[List.length_map];exact hc.2
    have hcl:=hM.clone (xs.map twN) h hl
    rw[← hx] at hcl
    split at hr
    ·rename_i he
     have:xs=[]:=by simpa using he
     subst this
     rw[hcl,← hr,List.map_nil,qqn,qqm,List.append_nil]
    ·rename_i he
     have hne:xs.map twN≠[]:=by
      intro e
      have:xs=[]:=by simpa using e
      subst this
      exact he rfl
     rw[hcl,← hr,qjd hne,qja hne,← hx,List.length_map]
   ·cases hr
  ·cases hr
 ·split at hr
  ·rename_i hf
   subst hf
   split at hr
   ·injection hr with hr
    rw[← hr]
    exact h0 h
   ·cases hr
  ·cases hr
theorem qlT {α β:Type} [BEq α] [LawfulBEq α] {l:List (α × β)} {a:α} {b:β} (h:l.lookup a=some b):(a,b)∈l:=by
 induction l with
 | nil=>cases h
 | cons p l ih =>
   obtain⟨x,y⟩:=p
   rw[List.lookup_cons] at h
   by_cases hx:(a==x)=true
   ·rw[hx] at h
    injection h with h
    rw[eq_of_beq hx,h]
    exact List.mem_cons_self
   ·have hx':(a==x)=false:=by simpa using hx
    rw[hx'] at h
    exact List.mem_cons_of_mem _ (ih h)
theorem qwc {L:Lib} (hL:Plain L) (hM:MPrims L) (h0:∀ h:Heap,call L 138 [.list [] none] h=some (.val (.tuple []),h)) {T:List (Nat × AFn)} (hT:∀ p∈T,L.fns p.1=some p.2) {n f:Nat} (hc:quI (.bool true) (qrb (fun f=>List.lookup f T) twP n f [] [])=true) (h:Heap) :
  pcall L f [] h=some (.val (.bool true),h):=by
 obtain⟨H,hr⟩:=quJ hc
 have:=qvw (L:=L) hL.pure hL.summ (fun f=>List.lookup f T) twP (fun f fn hf=>hT _ (qlT hf)) (qyQ hM h0) n f [] [] _ hr
 exact qcj this rfl rfl h
section
end
end Go.Abs
