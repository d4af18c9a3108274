/-
  PARTS OF A PROOF, joined: an abstract machine for quiet code, its evaluation, and what the seat's functions answer on it. Conditions: none.
-/
import Derived.Test.YtjbgooldkkbdmaaDoorHF
import Derived.Test.YtjbgooldkkbdmaaDoorC
set_option linter.unusedVariables false
set_option linter.unusedSimpArgs false
set_option maxRecDepth 100000
namespace Go.Abs
structure US where
 uses:IM Int
 depth:IM Int
 many:IM Int
def qqx (n d:Int) (s:US):US:=⟨qgw n (qbZ n s.uses+1) s.uses,s.depth,if qbZ n s.depth<d then qgw n (qbZ n s.many+1) s.many else s.many⟩
def qcE (op:Int) (k:Nat) (d:Int):Int:=if op=2∨(op=13∧0<k) then d+1 else d
def setD (l:List Int) (d:Int) (s:US):US:=⟨s.uses,l.foldl (fun m n=>qgw n d m) s.depth,s.many⟩
mutual
def qlQ:CTree→Int→US→US
 | .mk op n binds kids alts,d,s=>qgz op binds alts kids 0 d (if op=0 then qqx n d s else s)
def qgz (op:Int) (binds:List Int) (alts:List CAlt):List CTree→Nat→Int→US→US
 | [],_,_,s=>s
 | k::ks,i,d,s=>qgz op binds alts ks (i+1) d (qlQ k (qcE op i d) (setD (qaQ op binds alts i) (qcE op i d) s))
end
def qib (s:US) (n:Int):Int:=if qbZ n s.uses=0 then 0 else if qbZ n s.uses=1∧qbZ n s.many=0 then 1 else 2
def u0:US:=⟨[],[],[]⟩
def qb7 (e:List CExpr):List (Int × Int):=(e.flatMap qaA).map fun n=>(n,qib (qlQ (qbg e) 0 u0) n)
structure UInv (s:RS) (u u':US):Prop where
 same:∀ b b',qaI b s.1=some b'→qbZ b u.uses=qbZ b' u'.uses∧qbZ b u.depth=qbZ b' u'.depth∧qbZ b u.many=qbZ b' u'.many
 low:∀ b,qaI b s.1=none→qbZ b u.uses=0∧qbZ b u.depth=0∧qbZ b u.many=0
 high:∀ y,s.2≤y→qbZ y u'.uses=0∧qbZ y u'.depth=0∧qbZ y u'.many=0
 inj:∀ b c y,qaI b s.1=some y→qaI c s.1=some y→b=c
 nm:NM s
theorem UInv.put {s:RS} {u u':US} (h:UInv s u u') (h0:0≤s.2) {b:Int} (hb:qaI b s.1=none):UInv (qgw b s.2 s.1,s.2+1) u u':=by
 refine⟨fun x y hx=>?_,fun x hx=>?_,fun y hy=>?_,fun x c y hx hc=>?_,fun x y hx=>?_⟩<;>dsimp only at *
 ·rw[qbU] at hx
  split at hx
  ·rename_i e
   injection hx with hx
   subst e
   subst hx
   obtain⟨a1,a2,a3⟩:=h.low x hb
   obtain⟨b1,b2,b3⟩:=h.high s.2 (Int.le_refl _)
   exact⟨by rw[a1,b1],by rw[a2,b2],by rw[a3,b3]⟩
  ·exact h.same x y hx
 ·rw[qbU] at hx
  split at hx
  ·cases hx
  ·exact h.low x hx
 ·exact h.high y (by omega)
 ·rw[qbU] at hx hc
  split at hx<;>split at hc
  ·rename_i e1 e2;rw[e1,e2]
  ·injection hx with hx;have:=(h.nm c y hc).2;omega
  ·injection hc with hc;have:=(h.nm x y hx).2;omega
  ·exact h.inj x c y hx hc
 ·rw[qbU] at hx
  split at hx
  ·injection hx with hx;omega
  ·have:=h.nm x y hx;omega
theorem UInv.frL {u u':US} (l:List Int):∀ {s:RS},UInv s u u'→0≤s.2→l.Nodup→(∀ x∈l,qaI x s.1=none)→UInv (frL l s) u u':=by
 induction l with
 | nil=>exact fun h _ _ _=>h
 | cons v l ih =>
   intro s h h0 hn hk
   rw[qd4]
   rw[List.nodup_cons] at hn
   refine ih (h.put h0 (hk v (by simp))) (by show 0≤s.2+1;omega) hn.2 fun x hx=>?_
   dsimp only
   have hxv:x≠v:=fun e=>hn.1 (by rw[← e];exact hx)
   rw[qbU,if_neg hxv]
   exact hk x (by simp[hx])
theorem UInv.hit {s:RS} {u u':US} (h:UInv s u u') {n n':Int} (hn:qaI n s.1=some n') (d:Int):UInv s (qqx n d u) (qqx n' d u'):=by
 obtain⟨q1,q2,q3⟩:=h.same n n' hn
 have key:∀ (p p':IM Int) (w w':Int),w=w'→(∀ b b',qaI b s.1=some b'→qbZ b p=qbZ b' p')→∀ b b',qaI b s.1=some b'→qbZ b (qgw n w p)=qbZ b' (qgw n' w' p'):=by
  intro p p' w w' hw hp b b' hb
  rw[qbH,qbH]
  by_cases e:b=n
  ·subst e
   rw[hb] at hn
   injection hn with hn
   rw[if_pos rfl,if_pos hn,hw]
  ·have e2:b'≠n':=fun e'=>e (h.inj b n n' (by rw[← e'];exact hb) hn)
   rw[if_neg e,if_neg e2]
   exact hp b b' hb
 have k1:=key u.uses u'.uses (qbZ n u.uses+1) (qbZ n' u'.uses+1) (by rw[q1]) (fun b b' hb=>(h.same b b' hb).1)
 have k3:=key u.many u'.many (qbZ n u.many+1) (qbZ n' u'.many+1) (by rw[q3]) (fun b b' hb=>(h.same b b' hb).2.2)
 have hne:∀ b,qaI b s.1=none→b≠n:=fun b hb e=>by rw[e,hn] at hb;cases hb
 have hnh:∀ y,s.2≤y→y≠n':=fun y hy e=>by have:=(h.nm n n' hn).2;omega
 unfold qqx
 refine⟨fun b b' hb=>⟨k1 b b' hb,(h.same b b' hb).2.1,?_⟩,fun b hb=>⟨?_,(h.low b hb).2.1,?_⟩,fun y hy=>⟨?_,(h.high y hy).2.1,?_⟩,h.inj,h.nm⟩<;>dsimp only
 ·rw[q2]
  split
  ·exact k3 b b' hb
  ·exact (h.same b b' hb).2.2
 ·rw[qbH,if_neg (hne b hb)]
  exact (h.low b hb).1
 ·split
  ·rw[qbH,if_neg (hne b hb)]
   exact (h.low b hb).2.2
  ·exact (h.low b hb).2.2
 ·rw[qbH,if_neg (hnh y hy)]
  exact (h.high y hy).1
 ·split
  ·rw[qbH,if_neg (hnh y hy)]
   exact (h.high y hy).2.2
  ·exact (h.high y hy).2.2
def qhA (m:IM Int) (x:Int):Int:=(qaI x m).getD 0
theorem UInv.setD {s:RS} (d:Int) (l:List Int):∀ {u u':US},UInv s u u'→(∀ x∈l,∃ y,qaI x s.1=some y)→UInv s (setD l d u) (setD (l.map (qhA s.1)) d u'):=by
 induction l with
 | nil=>exact fun h _=>h
 | cons x l ih =>
   intro u u' h hl
   obtain⟨y,hy⟩:=hl x (by simp)
   have hr:qhA s.1 x=y:=by unfold qhA;rw[hy];rfl
   have h1:UInv s ⟨u.uses,qgw x d u.depth,u.many⟩ ⟨u'.uses,qgw y d u'.depth,u'.many⟩:=by
    refine⟨fun b b' hb=>⟨(h.same b b' hb).1,?_,(h.same b b' hb).2.2⟩,fun b hb=>⟨(h.low b hb).1,?_,(h.low b hb).2.2⟩,fun q hq=>⟨(h.high q hq).1,?_,(h.high q hq).2.2⟩,h.inj,h.nm⟩<;>dsimp only
    ·rw[qbH,qbH]
     by_cases e:b=x
     ·subst e
      rw[hb] at hy
      injection hy with hy
      rw[if_pos rfl,if_pos hy]
     ·have e2:b'≠y:=fun e'=>e (h.inj b x y (by rw[← e'];exact hb) hy)
      rw[if_neg e,if_neg e2]
      exact (h.same b b' hb).2.1
    ·rw[qbH,if_neg (fun e=>by rw[e,hy] at hb;cases hb)]
     exact (h.low b hb).2.1
    ·rw[qbH,if_neg (fun e=>by have:=(h.nm x y hy).2;omega)]
     exact (h.high q hq).2.1
   have h2:=ih h1 fun z hz=>hl z (by simp[hz])
   unfold Go.Abs.setD at h2 ⊢
   rw[List.map_cons,List.foldl_cons,List.foldl_cons,hr]
   exact h2
theorem qok (l:List Int):∀ s:RS,l.Nodup→l.map (qhA (Go.Abs.frL l s).1)=qed s.2 l.length:=by
 induction l with
 | nil=>intro s _;rfl
 | cons v l ih =>
   intro s hn
   rw[List.nodup_cons] at hn
   rw[qd4,List.map_cons,List.length_cons,qjG,ih _ hn.2]
   congr 1
   unfold qhA
   rw[qeQ v l _ hn.1,qbU,if_pos rfl]
   rfl
theorem qfv {m m':IM Int} {l:List Int} (h:∀ x∈l,qaI x m=qaI x m'):l.map (qhA m)=l.map (qhA m'):=List.map_congr_left fun x hx=>by unfold qhA;rw[h x hx]
theorem qqQ {op:Int} {binds:List Int} (hb:BG op binds) (alts:List CAlt) (s:RS) (hn:(qaz op binds alts).Nodup) (j:Nat) :
  qaQ op (qfb op binds s) (frA alts (qcc op binds s)).1 j=(qaQ op binds alts j).map (qhA (frL (qaz op binds alts) s).1):=by
 rw[qdG] at hn ⊢
 rw[List.nodup_append] at hn
 obtain⟨n1,n2,n3⟩:=hn
 unfold qaQ
 by_cases ho:op=2∨op=5∨(op=4∧j=1)
 ·have hob:qcb op=true:=by
   unfold qcb
   rcases ho with rfl | rfl | ⟨rfl,_⟩<;>rfl
  have hnb:qrR op binds=binds:=by unfold qrR;rw[if_pos hob]
  rw[hnb] at n1 n3 ⊢
  rw[if_pos ho,if_pos ho,qbV,qfv (m':=(frL binds s).1) (fun x hx=>qeQ x _ _ (fun hm=>n3 x hx x hm rfl)),qok _ _ n1]
  unfold qfb
  rw[if_neg (by rintro rfl;cases hob)]
 ·rw[if_neg ho,if_neg ho]
  by_cases hj:0<j
  ·rw[if_pos hj,if_pos hj]
   cases ha:alts[j-1]? with
   | none =>
     have:(frA alts (qcc op binds s)).1[j-1]? = none:=by
      rw[List.getElem?_eq_none_iff] at ha ⊢
      rw[qli]
      exact ha
     rw[this]
     rfl
   | some a =>
     rw[qnU alts _ _ a ha]
     dsimp only
     obtain⟨hlen,rfl⟩:=List.getElem?_eq_some_iff.1 ha
     have hsplit:alts.flatMap (·.binds)=(alts.take (j-1)).flatMap (·.binds)++(alts[j-1].binds++(alts.drop (j-1+1)).flatMap (·.binds)):=by
      conv=>lhs;rw[← List.take_append_drop (j-1) alts,List.drop_eq_getElem_cons hlen]
      rw[List.flatMap_append,List.flatMap_cons]
     rw[hsplit] at n2 n3 ⊢
     rw[List.nodup_append] at n2
     obtain⟨m1,m2,m3⟩:=n2
     rw[List.nodup_append] at m2
     obtain⟨q1,q2,q3⟩:=m2
     rw[qbV,qbV,qbV,qjb,qiy hb]
     rw[qfv (m':=(frL alts[j-1].binds (frL ((alts.take (j-1)).flatMap (·.binds)) (frL (qrR op binds) s))).1) (fun x hx=>qeQ x _ _ (fun hm=>q3 x hx x hm rfl)),qok _ _ q1]
  ·rw[if_neg hj,if_neg hj]
   rfl
theorem qe5 (a b:List CTree):qbp (a++b)=qbp a++qbp b:=by
 induction a with
 | nil=>rfl
 | cons k ks ih=>rw[List.cons_append,qbb,qbb,ih,List.append_assoc]
theorem qwO (t:CTree) (h:BGt t):∀ (s:RS) (d:Int) (u u':US),(qbz t).Nodup→(∀ x∈qbz t,qaI x s.1=none)→(∀ x,qcC x t→∃ y,qaI x s.1=some y)→0≤s.2→UInv s u u' →
  UInv (qb0 t s).2 (qlQ t d u) (qlQ (qb0 t s).1 d u'):=by
 induction t using CTree.ind with
 | h op n binds kids alts ih =>
   intro s d u u' hn hnone hfree h0 hI
   cases h with
   | mk _ _ _ _ _ hb hz hk =>
   rw[qb2] at hn hnone
   rw[List.nodup_append] at hn
   obtain⟨n1,n2,n3⟩:=hn
   have hI2:=hI.frL (qaz op binds alts) h0 n2 fun x hx=>hnone x (List.mem_append.2 (.inr hx))
   have hbm:=qqQ hb alts s n2
   have hs2:0≤(frL (qaz op binds alts) s).2:=by rw[qb3];omega
   have hin:=fun x (hx:x∈qaz op binds alts)=>qoR x _ s n2 hx
   have hout:=fun x (hx:x∉qaz op binds alts)=>qeQ x (qaz op binds alts) s hx
   rw[qb0,qlQ,qlQ,qc1 hb]
   have hstart:UInv (frL (qaz op binds alts) s) (if op=0 then qqx n d u else u) (if op=0 then qqx (qoi op n s.1) d u' else u'):=by
    by_cases h00:op=0
    ·rw[if_pos h00,if_pos h00]
     obtain⟨k0,a0⟩:=hz h00
     obtain⟨y,hy⟩:=hfree n (by rw[qcC];exact .inl ⟨h00,rfl⟩)
     have hr:qoi op n s.1=y:=by unfold qoi;rw[hy];exact if_pos h00
     rw[hr]
     have hnil:qaz op binds alts=[]:=by subst a0;subst h00;rfl
     rw[hnil,qlk]
     exact hI.hit hy d
    ·rw[if_neg h00,if_neg h00]
     exact hI2
   have key:∀ (ks pre:List CTree) (s':RS) (v v':US),pre++ks=kids→(∀ x,x∉qbp pre→qaI x s'.1=qaI x (frL (qaz op binds alts) s).1)→0≤s'.2→UInv s' v v' →
    UInv (qaK ks s').2 (qgz op binds alts ks pre.length d v) (qgz op (qfb op binds s) (frA alts (qcc op binds s)).1 (qaK ks s').1 pre.length d v'):=by
    intro ks
    induction ks with
    | nil=>intro pre s' v v' _ _ _ hv;rw[qaK,qgz,qgz];exact hv
    | cons k ks ih2 =>
      intro pre s' v v' hpre hlook hs' hv
      have hmem:k∈kids:=by rw[← hpre];simp
      have hkj:kids[pre.length]? = some k:=by rw[← hpre];simp
      rw[← hpre,qe5,qbb] at n1 n3 hnone
      rw[List.nodup_append] at n1
      obtain⟨p1,p2,p3⟩:=n1
      rw[List.nodup_append] at p2
      obtain⟨p4,p5,p6⟩:=p2
      have hbl:∀ x∈qaQ op binds alts pre.length,qaI x s'.1=qaI x (frL (qaz op binds alts) s).1:=fun x hx=>hlook x fun hm=>n3 x (by simp[hm]) x (qff hx) rfl
      have hkn:∀ x∈qbz k,qaI x s'.1=none:=fun x hx=>by
       rw[hlook x (fun hm=>p3 x hm x (by simp[hx]) rfl),hout x (fun hm=>n3 x (by simp[hx]) x hm rfl)]
       exact hnone x (by simp[hx])
      have hkf:∀ x,qcC x k→∃ y,qaI x s'.1=some y:=fun x hx=>by
       by_cases hbd:x∈qaQ op binds alts pre.length
       ·rw[hbl x hbd]
        obtain⟨y,hy,_⟩:=hin x (qff hbd)
        exact⟨y,hy⟩
       ·have hft:qcC x (.mk op n binds kids alts):=by
         rw[qcC,qcS]
         obtain⟨hj,hkk⟩:=List.getElem?_eq_some_iff.1 hkj
         exact .inr ⟨pre.length,hj,by rw[hkk];exact hx,by rw[Nat.zero_add];exact hbd⟩
        obtain⟨y,hy⟩:=hfree x hft
        have hno:∀ l:List Int,(∀ z∈l,qaI z s.1=none)→x∉l:=fun l hl hm=>by have:=hl x hm;rw[hy] at this;cases this
        refine⟨y,?_⟩
        rw[hlook x (hno _ fun z hz=>hnone z (by simp[hz])),hout x (hno _ fun z hz=>hnone z (by simp[hz]))]
        exact hy
      have hd:=hv.setD (qcE op pre.length d) (qaQ op binds alts pre.length) fun x hx=>by
       rw[hbl x hx]
       obtain⟨y,hy,_⟩:=hin x (qff hx)
       exact⟨y,hy⟩
      rw[qfv hbl,← hbm] at hd
      have hstep:=ih k hmem (hk k hmem) s' (qcE op pre.length d) _ _ p4 hkn hkf hs' hd
      rw[qaK,qgz,qgz]
      have hnext:=ih2 (pre++[k]) (qb0 k s').2 _ _ (by rw[← hpre];simp) (fun x hx=>by
       rw[qe5,qbb] at hx
       rw[qpj x k (hk k hmem) s' (fun hm=>hx (by simp[hm])),hlook x (fun hm=>hx (by simp[hm]))]) (by have:=qex k s';omega) hstep
      rw[List.length_append,List.length_singleton] at hnext
      exact hnext
   exact key kids [] _ _ _ rfl (fun _ _=>rfl) hs2 hstart
theorem qwA (t:CTree) (h:BGt t):∀ s:RS,(qbz t).Nodup→qbz (qb0 t s).1=(qbz t).map (qhA (qb0 t s).2.1)∧∀ x∈qbz t,∃ y,qaI x (qb0 t s).2.1=some y:=by
 induction t using CTree.ind with
 | h op n binds kids alts ih =>
   intro s hn
   cases h with
   | mk _ _ _ _ _ hb hz hk =>
   rw[qb2,List.nodup_append] at hn
   obtain⟨n1,n2,n3⟩:=hn
   have key:∀ ks:List CTree,(∀ k∈ks,k∈kids)→(qbp ks).Nodup→∀ s:RS,qbp (qaK ks s).1=(qbp ks).map (qhA (qaK ks s).2.1)∧∀ x∈qbp ks,∃ y,qaI x (qaK ks s).2.1=some y:=by
    intro ks
    induction ks with
    | nil=>intro _ _ s;rw[qaK];exact⟨rfl,fun x hx=>by cases hx⟩
    | cons k ks ih2 =>
      intro hks hnd s
      rw[qbb,List.nodup_append] at hnd
      obtain⟨p1,p2,p3⟩:=hnd
      obtain⟨a1,a2⟩:=ih k (hks k (by simp)) (hk k (hks k (by simp))) s p1
      obtain⟨b1,b2⟩:=ih2 (fun q hq=>hks q (by simp[hq])) p2 (qb0 k s).2
      have hout:∀ x∈qbz k,qaI x (qaK ks (qb0 k s).2).2.1=qaI x (qb0 k s).2.1:=fun x hx=>qjA x ks (fun q hq=>hk q (hks q (by simp[hq]))) _ (fun hm=>p3 x hx x hm rfl)
      rw[qaK]
      dsimp only
      rw[qbb,qbb,List.map_append,b1,a1,qfv (fun x hx=>(hout x hx).symm)]
      refine⟨rfl,fun x hx=>?_⟩
      rcases List.mem_append.1 hx with hx | hx
      ·rw[hout x hx];exact a2 x hx
      ·exact b2 x hx
   obtain⟨c1,c2⟩:=key kids (fun k hk=>hk) n1 (frL (qaz op binds alts) s)
   have hout:∀ x∈qaz op binds alts,qaI x (qaK kids (frL (qaz op binds alts) s)).2.1=qaI x (frL (qaz op binds alts) s).1:=fun x hx=>qjA x kids hk _ (fun hm=>n3 x hm x hx rfl)
   have hbs:=qgy hb alts s
   have hst:=qc1 hb alts s
   rw[qb0]
   dsimp only
   rw[qb2,qb2,hbs,hst,List.map_append,c1,qfv hout,qok _ _ n2]
   refine⟨rfl,fun x hx=>?_⟩
   rcases List.mem_append.1 hx with hx | hx
   ·exact c2 x hx
   ·rw[hout x hx]
    obtain⟨y,hy,_⟩:=qoR x _ s n2 hx
    exact⟨y,hy⟩
theorem qph {e:List CExpr} (h:TreeL e):((qb7 e).map (·.2)).Perm ((qbz (qbg e)).map (qib (qlQ (qbg e) 0 u0))):=by
 unfold qb7
 rw[List.map_map]
 show ((e.flatMap qaA).map (qib (qlQ (qbg e) 0 u0))).Perm _
 refine List.Perm.map _ ?_
 rw[qc5 e]
 exact ((qda e h).flatMap_right qbu).symm
theorem qsM {e:List CExpr} (h:qa5 e=0) (a:Int) (ha:0≤a) :
  ((qb7 (qcp (qb0 (qbg e) ([],a)).1)).map (·.2)).Perm ((qb7 e).map (·.2)):=by
 have hT:=qpn h
 have hB:=qoz _ hT.lab
 obtain⟨hTL,_,_,_,_,hc⟩:=qcR h
 have hno:∀ x,¬ qcC x (qbg e):=fun x hx=>by
  have:=(qhr (qbg e) x).2 hx
  rw[hc] at this
  cases this
 have hI0:UInv (([],a):RS) u0 u0:=⟨fun b b' hb=>(by cases hb),fun b _=>⟨rfl,rfl,rfl⟩,fun y _=>⟨rfl,rfl,rfl⟩,fun b c y hb=>(by cases hb),fun x y hx=>(by cases hx)⟩
 have hsim:=qwO (qbg e) hB ([],a) 0 u0 u0 hT.once (fun _ _=>rfl) (fun x hx=>absurd hx (hno x)) ha hI0
 obtain⟨m1,m2⟩:=qwA (qbg e) hB ([],a) hT.once
 have hp1:=qph (qjP (qb0 (qbg e) ([],a)).1)
 rw[qfW,m1,List.map_map] at hp1
 refine hp1.trans (List.Perm.trans ?_ (qph hTL).symm)
 refine List.Perm.of_eq (List.map_congr_left fun x hx=>?_)
 obtain⟨y,hy⟩:=m2 x hx
 obtain⟨q1,q2,q3⟩:=hsim.same x y hy
 have hr:qhA (qb0 (qbg e) ([],a)).2.1 x=y:=by unfold qhA;rw[hy];rfl
 simp only[Function.comp,hr]
 unfold qib
 rw[q1,q3]
end Go.Abs
set_option maxHeartbeats 4000000
namespace Go.Abs
def uh (s:US):Heap:=[.box [.map (some 1),.map (some 2),.map (some 3)],.map (encB s.uses),.map (encB s.depth),.map (encB s.many)]
section
variable {L:Lib}
theorem qxM (T K:AVal) (hT:qar T=true) (hK:qar K=true) (kid:CTree) (l:List Int) (hl:l.length<2 ^ 30) (d d':Int) (n k:Nat) (s:US) :
  qbl L.pure (call L) 4 [0,1,2,7,8,50,51,52,65,66,67] [0,1,2,7,8,50,51,52] 2 qis
   ⟨kt [0,1,2,7,8,50,51,52,65,66,67] [.ptr (some (0,0)),T,.int .i64 d,qaB kid,.int .i64 d',K,.int .i64 n,.int .i64 k,.list (l.map qau) none,.int .i64 l.length,.int .i64 ((0:Nat):Int)],uh s⟩ =
   some (.normal,⟨kt [0,1,2,7,8,50,51,52] [.ptr (some (0,0)),T,.int .i64 d,qaB kid,.int .i64 d',K,.int .i64 n,.int .i64 k],uh (setD l d' s)⟩):=by
 have hfold:l.foldl (fun s v=>(⟨s.uses,qgw v d' s.depth,s.many⟩:US)) s=setD l d' s:=by
  have:∀ (l:List Int) (s:US),l.foldl (fun s v=>(⟨s.uses,qgw v d' s.depth,s.many⟩:US)) s=⟨s.uses,l.foldl (fun m n=>qgw n d' m) s.depth,s.many⟩:=by
   intro l
   induction l with
   | nil=>intro s;rfl
   | cons v l ih=>intro s;rw[List.foldl_cons,List.foldl_cons,ih]
  exact this l s
 rw[← hfold]
 obtain⟨tc,htc,hdt⟩:=qdv kid
 rw[htc]
 refine (qeq (pure:=L.pure) (call:=call L) l (fun s v=>(⟨s.uses,qgw v d' s.depth,s.many⟩:US))
  (fun s j=>⟨kt [0,1,2,7,8,50,51,52,65,66,67] [.ptr (some (0,0)),T,.int .i64 d,.vptr tc 0,.int .i64 d',K,.int .i64 n,.int .i64 k,.list (l.map qau) none,.int .i64 l.length,.int .i64 j],uh s⟩)
  (fun s=>⟨kt [0,1,2,7,8,50,51,52] [.ptr (some (0,0)),T,.int .i64 d,.vptr tc 0,.int .i64 d',K,.int .i64 n,.int .i64 k],uh s⟩) (fun _ _=>True) s trivial ?_ ?_).2
 ·intro j hj s _
  obtain⟨h1,h2,h3⟩:=qaT qau l hl j hj
  refine⟨?_,trivial⟩
  generalize l[j]=v at *
  have hup:=fun (h:Heap) (hr:h[2]? = some (.map (encB s.depth)))=>qwV h 2 v d' s.depth hr
  unfold uh
  unfold qis
  simp -implicitDefEqProofs only[ev_,aOp,opd,qaa,qat,qaD,qaC,qae,qab,qag,qak,qas,ren,renC,qa0,qbh,↓reduceIte,reduceCtorEq,Nat.reduceEqDiff,Nat.reduceAdd,Nat.reduceLT,Nat.reduceLeDiff,qba,qac,h1,h2,h3,hup,hT,hK,hdt,qds,qdt]
 ·intro s _
  have h0:=qaU l.length
  unfold uh
  unfold qis
  simp -implicitDefEqProofs only[ev_,aOp,opd,qaa,qaD,qaC,qab,gcE,qas,ren,renC,qa0,qbh,↓reduceIte,reduceCtorEq,Nat.reduceEqDiff,Nat.reduceAdd,Nat.reduceLT,Nat.reduceLeDiff,h0,hT,hK,hdt,qds,qdt]
end
def UB (s:US) (N:Nat):Prop:=∀ v,0≤qbZ v s.uses∧qbZ v s.uses≤N∧0≤qbZ v s.many∧qbZ v s.many≤N
theorem UB.hit {s:US} {N:Nat} (h:UB s N) (n d:Int):UB (qqx n d s) (N+1):=by
 intro v
 have h1:=h v
 have h2:=h n
 unfold qqx
 dsimp only
 refine⟨?_,?_,?_,?_⟩
 ·rw[qbH];split<;>omega
 ·rw[qbH];split<;>omega
 ·split
  ·rw[qbH];split<;>omega
  ·omega
 ·split
  ·rw[qbH];split<;>omega
  ·omega
mutual
theorem UB.walk:∀ (t:CTree) (d:Int) (s:US) (N:Nat),UB s N→UB (qlQ t d s) (N+qbs t)
 | .mk op n binds kids alts,d,s,N,h => by
   rw[qlQ,qbs]
   have h1:UB (if op=0 then qqx n d s else s) (N+1):=by
    split
    ·exact h.hit n d
    ·intro v;have:=h v;omega
   have h2:=UB.walks op binds alts kids 0 d _ _ h1
   intro v
   have:=h2 v
   omega
theorem UB.walks (op:Int) (binds:List Int) (alts:List CAlt):∀ (ks:List CTree) (i:Nat) (d:Int) (s:US) (N:Nat),UB s N→UB (qgz op binds alts ks i d s) (N+qaE ks)
 | [],i,d,s,N,h=>by rw[qgz,qaE];exact h
 | k :: ks,i,d,s,N,h => by
   rw[qgz,qaE]
   have h1:UB (setD (qaQ op binds alts i) (qcE op i d) s) N:=h
   have h2:=UB.walks op binds alts ks (i+1) d _ _ (UB.walk k (qcE op i d) _ _ h1)
   intro v
   have:=h2 v
   omega
end
theorem qkY (op:Int) (binds:List Int) (alts:List CAlt) (d:Int):∀ (ks:List CTree) (i:Nat) (s:US),qbq (ε:=Unit) (fun i s k=>.ok (qlQ k (qcE op i d) (setD (qaQ op binds alts i) (qcE op i d) s))) ks i s=.ok (qgz op binds alts ks i d s)
 | [],i,s=>by rw[qbq,qgz]
 | k::ks,i,s=>by rw[qbq,qgz];exact qkY op binds alts d ks (i+1) _
def qw0 (L:Lib) (t:CTree):Prop:=∀ (d:Int) (s:US) (N:Nat),0≤d→d+hgt t<2 ^ 40→UB s N→N+qbs t<2 ^ 40 →
 call L 285 [.ptr (some (0,0)),qaB t,.int .i64 d] (uh s)=some (.val (.tuple []),uh (qlQ t d s))
section
variable {L:Lib} (hL:Plain L)
include hL
theorem qqf (h295:L.fns 295=some fn295) (op:Int) (cs:List AVal) (k:Nat) (h:Heap):pcall L 295 [.vptr (.int .i64 op::cs) 0,.int .i64 k] h=some (.val (.bool (decide (op=2∨(op=13∧0<k)))),h):=by
 refine qbo hL h295 rfl ?_ h
 have hk:((0:Int)<k)=(0<k):=by simp
 have e2:(op==2)=decide (op=2):=rfl
 have e13:(op==13)=decide (op=13):=rfl
 by_cases h2:op=2
 ·have:(op==2)=true:=by simpa using h2
  have hd:decide (op=2∨(op=13∧0<k))=true:=by simp[h2]
  rw[hd]
  unfold fn295
  simp -implicitDefEqProofs only[ev_,aOp,opd,qaa,qaD,qaC,qab,qaf,qag,qak,qav,qad,qai,qam,↓reduceIte,reduceCtorEq,Nat.reduceEqDiff,qaj,this]
 ·have q2:(op==2)=false:=by simpa using h2
  by_cases h13:op=13
  ·have q13:(op==13)=true:=by simpa using h13
   by_cases hz:0<k
   ·have hd:decide (op=2∨(op=13∧0<k))=true:=by simp[h13,hz]
    rw[hd]
    have hz':(0:Int)<k:=by omega
    unfold fn295
    simp -implicitDefEqProofs only[ev_,aOp,opd,qaa,qaD,qaC,qab,qaf,qag,qak,qav,qad,qai,qam,↓reduceIte,reduceCtorEq,Nat.reduceEqDiff,gt_iff_lt,qaj,q2,q13,hz']
   ·have hd:decide (op=2∨(op=13∧0<k))=false:=by simp[h13,hz]
    rw[hd]
    have hz':¬ (0:Int)<k:=by omega
    unfold fn295
    simp -implicitDefEqProofs only[ev_,aOp,opd,qaa,qaD,qaC,qab,qaf,qag,qak,qav,qad,qai,qam,↓reduceIte,reduceCtorEq,Nat.reduceEqDiff,gt_iff_lt,qaj,q2,q13,hz']
  ·have q13:(op==13)=false:=by simpa using h13
   have hd:decide (op=2∨(op=13∧0<k))=false:=by simp[h2,h13]
   rw[hd]
   unfold fn295
   simp -implicitDefEqProofs only[ev_,aOp,opd,qaa,qaD,qaC,qab,qaf,qag,qak,qav,qad,qai,qam,↓reduceIte,reduceCtorEq,Nat.reduceEqDiff,qaj,q2,q13]
end
end Go.Abs
