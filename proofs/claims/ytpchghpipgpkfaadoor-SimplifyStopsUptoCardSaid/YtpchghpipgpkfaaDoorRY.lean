/-
  PARTS OF A PROOF, joined: an abstract machine for quiet code, its evaluation, and what the seat's functions answer on it. Conditions: none.
-/
import Derived.Test.YtpchghpipgpkfaaDoorRP
set_option linter.unusedVariables false
set_option linter.unusedSimpArgs false
set_option maxRecDepth 100000
set_option maxHeartbeats 8000000
namespace Go.Abs
def qo7 (e:List CExpr) (id:Int):Nat:=(e.filter fun x=>x.op==0 && x.n==id).length
def qlt (rule:Int) (v:CTree) (many:Nat):Bool :=
 if rule=2 then qmm v else if rule=3 then many==0 && qik v else if rule=8 then qcB v==4
 else if rule=9 then (match v with | .mk vo _ _ _ va=>vo==7 && va.length==1) else if rule=11 then qcB v==2 && many==1 else false
def qvs (rule:Int) (cnt:Int→Nat):CTree→Bool
 | .mk op n binds kids alts =>
   if op=4 then qlt rule (kids.getD 0 .none) (cnt (binds.getD 0 0))
   else if rule=4∧op=5 then (binds.all fun id=>cnt id==0) || qfs (.mk op n binds kids alts)
   else if rule=6∧op=8 then kids.length==2 && (qoU (.mk op n binds kids alts)).isSome
   else if rule=7∧op=10 then (qpe (.mk op n binds kids alts)).isSome
   else if rule=5∧op=7 then qcB (kids.getD 0 .none)==6 && (qlv (.mk op n binds kids alts)).isSome
   else if rule=1∧op=3 then qcB (kids.getD 0 .none)==2 && (qhV (kids.getD 0 .none)).length==kids.length-1
   else false
def bdT (t:CTree):List Int:=(qbN t).flatMap qdT
def qvN (ts:List CTree):List Int:=(qbO ts).flatMap qdT
theorem qvp (op n:Int) (binds:List Int) (kids:List CTree) (alts:List CAlt):bdT (.mk op n binds kids alts)=qvN kids++qbS op binds alts:=by
 unfold bdT qvN
 rw[qbN,List.flatMap_append]
 simp[qdT]
theorem qis {k:CTree} {ks:List CTree} (h:k∈ks) {v:Int} (hv:v∈bdT k):v∈qvN ks:=by
 unfold bdT at hv
 obtain⟨l,h1,h2⟩:=List.mem_flatMap.1 hv
 exact List.mem_flatMap.2 ⟨l,qjG h l h1,h2⟩
theorem qlS {id:Int} {t:CTree} (h:qdM id t≠0) (hb:id∉bdT t):qd1 id t:=by
 rcases qsp id t h with ⟨l,h1,h2⟩ | h1
 ·exact absurd (List.mem_flatMap.2 ⟨l,h1,h2⟩) hb
 ·exact h1
theorem qk3 {id:Int}:∀ {ks:List CTree},(∀ k∈ks,qdM id k=0)→qcl id ks=0
 | [],_=>by rw[qcl]
 | k::ks,h=>by rw[qcl,h k List.mem_cons_self,qk3 fun q hq=>h q (List.mem_cons_of_mem _ hq)]
theorem qjW {s:CTree}:∀ {ks:List CTree},s∈qdt ks→∃ k∈ks,s∈qkt k
 | k :: ks,h => by
   rw[qdt] at h
   rcases List.mem_append.1 h with h | h
   ·exact⟨k,List.mem_cons_self,h⟩
   ·obtain⟨q,h1,h2⟩:=qjW h
    exact⟨q,List.mem_cons_of_mem _ h1,h2⟩
theorem qn4 {s t:CTree} (h:s∈qkt t) {v:Int} (hv:v∈bdT s):v∈bdT t:=by
 unfold bdT at *
 exact (qig qdT (qiN t s h).2.2).subset hv
theorem qra (k:CTree) (ks:List CTree):qvN (k::ks)=bdT k++qvN ks:=by
 unfold qvN bdT
 rw[qbO,List.flatMap_append]
theorem qxG {id n:Int} {v body:CTree} {alts:List CAlt} (t:CTree):BGt t→(bdT t).Nodup→¬ qd1 id t→(.mk 4 n [id] [v,body] alts)∈qkt t→qdM id t=qdM id body:=by
 induction t using CTree.ind with
 | h op m binds kids as ih =>
   intro hg hn hf hs
   have hlet:id∈bdT (.mk 4 n [id] [v,body] alts):=by
    rw[qvp]
    exact List.mem_append_right _ (List.mem_append_left _ List.mem_cons_self)
   rw[qvp] at hn
   obtain⟨n1,n2,n3⟩:=List.nodup_append.1 hn
   rw[qkt] at hs
   have hkf:∀ (j:Nat) (hj:j<kids.length),id∉qbu op binds as j→¬ qd1 id kids[j]:=by
    intro j hj hb h
    refine hf ?_
    rw[qd1]
    exact .inr ((qfb id op binds as kids 0).2 ⟨j,hj,h,by rw[Nat.zero_add];exact hb⟩)
   rcases List.mem_append.1 hs with hs | hs
   ·cases hg with
    | mk _ _ _ _ _ g1 g2 g3 =>
    have h0:op≠0:=by
     intro h0
     obtain⟨hk,_⟩:=g2 h0
     rw[hk,qdt] at hs
     cases hs
    obtain⟨k,hk,hsk⟩:=qjW hs
    have hidb:id∉qbS op binds as:=fun h=>n3 id (qis hk (qn4 hsk hlet)) id h rfl
    have hnf:∀ q∈kids,¬ qd1 id q:=by
     intro q hq
     obtain⟨j,hj,rfl⟩:=List.getElem_of_mem hq
     exact hkf j hj fun h=>hidb (qgH h)
    rw[qdM,if_neg h0]
    have key:∀ ks:List CTree,(∀ q∈ks,q∈kids)→(qvN ks).Nodup→(.mk 4 n [id] [v,body] alts)∈qdt ks→qcl id ks=qdM id body:=by
     intro ks
     induction ks with
     | nil=>intro _ _ h;rw[qdt] at h;cases h
     | cons a r ihr =>
       intro hsub hnd h
       rw[qra] at hnd
       obtain⟨d1,d2,d3⟩:=List.nodup_append.1 hnd
       rw[qdt] at h
       rw[qcl]
       rcases List.mem_append.1 h with h | h
       ·rw[ih a (hsub a List.mem_cons_self) (g3 a (hsub a List.mem_cons_self)) d1 (hnf a (hsub a List.mem_cons_self)) h,qk3 fun q hq=>?_,Nat.add_zero]
        refine Classical.not_not.1 fun hc=>hnf q (hsub q (List.mem_cons_of_mem _ hq)) (qlS hc fun hb=>?_)
        exact d3 id (qn4 h hlet) id (qis hq hb) rfl
       ·obtain⟨q,hq,hsq⟩:=qjW h
        have ha:qdM id a=0:=by
         refine Classical.not_not.1 fun hc=>hnf a (hsub a List.mem_cons_self) (qlS hc fun hb=>?_)
         exact d3 id hb id (qis hq (qn4 hsq hlet)) rfl
        rw[ha,Nat.zero_add]
        exact ihr (fun q hq=>hsub q (List.mem_cons_of_mem _ hq)) d2 h
    exact key kids (fun _ h=>h) n1 hs
   ·rw[List.mem_singleton] at hs
    injection hs with e1 e2 e3 e4 e5
    subst e1 e2 e3 e4 e5
    rw[qdM,if_neg (by decide),qcl,qcl,qcl,Nat.add_zero]
    have hv:qdM id v=0:=by
     refine Classical.not_not.1 fun hc=>?_
     have hnb:id∉bdT v:=fun hb=>n3 id (qis List.mem_cons_self hb) id (List.mem_append_left _ List.mem_cons_self) rfl
     refine hkf 0 (by simp) ?_ (qlS hc hnb)
     unfold qbu
     rw[if_neg (by rintro (h | h | ⟨_,h⟩)<;>exact absurd h (by decide)),if_neg (by decide)]
     simp
    rw[hv,Nat.zero_add]
theorem qhF (id:Int) (t:CTree):BGt t→qdM id t=(qbN t).countP fun l=>l.op==0 && l.n==id:=by
 induction t using CTree.ind with
 | h op n binds kids alts ih =>
   intro hg
   cases hg with
   | mk _ _ _ _ _ g1 g2 g3 =>
   rw[qbN,List.countP_append,List.countP_singleton,qdM]
   by_cases h0:op=0
   ·rw[if_pos h0,(g2 h0).1,qbO,h0]
    by_cases hn:n=id
    ·simp[hn]
    ·simp[hn]
   ·have hb:(op==0)=false:=by simpa using h0
    rw[if_neg h0,hb,Bool.false_and,if_neg (by decide),Nat.add_zero]
    have key:∀ ks:List CTree,(∀ q∈ks,q∈kids)→qcl id ks=(qbO ks).countP fun l=>l.op==0 && l.n==id:=by
     intro ks
     induction ks with
     | nil=>intro _;rw[qcl,qbO];rfl
     | cons a r ihr =>
       intro hs
       rw[qcl,qbO,List.countP_append,ih a (hs a List.mem_cons_self) (g3 a (hs a List.mem_cons_self)),ihr fun q hq=>hs q (List.mem_cons_of_mem _ hq)]
    exact key kids fun _ h=>h
theorem qrp {e:List CExpr} (hz:qaN e=0) (id:Int):qo7 e id=qdM id (qbl e):=by
 have hT:=(qbo hz).1
 rw[qhF id _ (qrb _ (qta hz).lab),(qec e hT).countP_eq]
 unfold qo7
 rw[← List.countP_eq_length_filter,List.countP_map]
 rfl
theorem qm8 {id:Int} {k:CTree}:∀ {ks:List CTree},k∈ks→qdM id k≤qcl id ks
 | a :: r,h => by
   rw[qcl]
   rcases List.mem_cons.1 h with rfl | h
   ·omega
   ·have:=qm8 (id:=id) h;omega
theorem qxH {id:Int} {s t:CTree} (hg:BGt t) (hs:BGt s) (h:s∈qkt t):qdM id s≤qdM id t:=by
 rw[qhF id s hs,qhF id t hg]
 exact (qiN t s h).2.2.countP_le
theorem qvZ {e:List CExpr} (hz:qaN e=0) (hf:∀ x∈e,NodeFit x) (rule:Int) (i:Nat) (hi:i<e.length) (h:qvs rule (qo7 e) (qbb e i)=true):∃ t',qsW rule 0 (qbb e i)=some t':=by
 have hg:=qlE hz hf i hi
 have hsub:=qvH (qbo hz).1 i hi
 have hok:=qta hz
 have hbg:=qrb _ hok.lab
 have hcl:∀ id,¬ qd1 id (qbl e):=by
  intro id hfr
  have h1:=(qqg (qbl e) id).2 hfr
  rw[(qbo hz).2.2.2.2.2] at h1
  cases h1
 have hlet:∀ {id n:Int} {v body:CTree} {alts:List CAlt},qbb e i=.mk 4 n [id] [v,body] alts→qo7 e id=qdM id body:=by
  intro id n v body alts ht
  rw[qrp hz]
  rw[ht] at hsub
  exact qxG (qbl e) hbg hok.once (hcl id) hsub
 generalize hte:qbb e i=t at *
 obtain⟨op,n,binds,kids,alts⟩:=t
 have hs:=hg.shape
 rw[qvs] at h
 rw[qsW,if_neg (by decide)]
 by_cases h4:op=4
 ·rw[if_pos h4] at h
  rw[if_neg (by rintro ⟨_,h3,_⟩;omega),if_pos h4]
  obtain⟨s1,s2,s3,s4⟩:=qel hs h4
  obtain⟨id,rfl⟩:∃ id,binds=[id]:=by
   rcases binds with _ | ⟨a,_ | ⟨b,l⟩⟩
   ·simp at s2
   ·exact⟨a,rfl⟩
   ·simp at s2
  obtain⟨v,body,rfl⟩:∃ v body,kids=[v,body]:=by
   rcases kids with _ | ⟨a,_ | ⟨b,_ | ⟨c,l⟩⟩⟩
   ·simp at s1
   ·simp at s1
   ·exact⟨a,b,rfl⟩
   ·simp at s1
  subst h4
  have hc:=hlet rfl
  obtain⟨vo,vn,vb,vk,va⟩:=v
  rw[qgt]
  unfold qlt at h
  have e1:([CTree.mk vo vn vb vk va,body].getD 0 .none)=.mk vo vn vb vk va:=rfl
  have e2:([id].getD 0 0:Int)=id:=rfl
  rw[e1,e2,hc] at h
  dsimp only[qcB] at h
  split at h
  ·rename_i hr
   exact⟨_,if_pos ⟨hr,h⟩⟩
  split at h
  ·rename_i h2 hr
   simp only[Bool.and_eq_true,beq_iff_eq] at h
   exact⟨_,by rw[if_neg (fun hh=>h2 hh.1),if_pos ⟨hr,h.1,h.2⟩]⟩
  split at h
  ·rename_i h2 h3 hr
   simp only[beq_iff_eq] at h
   exact⟨_,by rw[if_neg (fun hh=>h2 hh.1),if_neg (fun hh=>h3 hh.1),if_pos ⟨hr,h⟩]⟩
  split at h
  ·rename_i h2 h3 h8 hr
   simp only[Bool.and_eq_true,beq_iff_eq] at h
   exact⟨_,by rw[if_neg (fun hh=>h2 hh.1),if_neg (fun hh=>h3 hh.1),if_neg (fun hh=>h8 hh.1),if_pos ⟨hr,h.1,h.2⟩]⟩
  split at h
  ·rename_i h2 h3 h8 h9 hr
   simp only[Bool.and_eq_true,beq_iff_eq] at h
   exact⟨_,by rw[if_neg (fun hh=>h2 hh.1),if_neg (fun hh=>h3 hh.1),if_neg (fun hh=>h8 hh.1),if_neg (fun hh=>h9 hh.1),if_pos ⟨hr,h.1,h.2⟩]⟩
  ·cases h
 rw[if_neg h4] at h
 by_cases h45:rule=4∧op=5
 ·rw[if_pos h45] at h
  have hu:qfs (.mk op n binds kids alts)=true:=by
   rw[Bool.or_eq_true] at h
   rcases h with h | h
   ·have hrec:=qem hs h45.2
    unfold qfs
    rw[Bool.not_eq_true',List.any_eq_false]
    intro id hid hc
    have hc:=of_decide_eq_true hc
    have h0:=List.all_eq_true.1 h id hid
    have h0:qo7 e id=0:=by simpa using h0
    rw[qrp hz] at h0
    have h1:=qxH (id:=id) hbg (qrb _ hg.lab) hsub
    rw[qdM,if_neg (by omega)] at h1
    have hm:kids.getD binds.length .none∈kids:=by
     rw[List.getD_eq_getElem?_getD,List.getElem?_eq_getElem (by omega)]
     exact List.getElem_mem _
    have h2:=qm8 (id:=id) hm
    omega
   ·exact h
  rw[if_neg (by rintro ⟨_,h3,_⟩;omega),if_neg h4,if_pos ⟨h45.1,h45.2,hu⟩]
  exact⟨_,rfl⟩
 rw[if_neg h45] at h
 by_cases h68:rule=6∧op=8
 ·rw[if_pos h68] at h
  simp only[Bool.and_eq_true,beq_iff_eq] at h
  rw[if_neg (by rintro ⟨_,h3,_⟩;omega),if_neg h4,if_neg (by rintro ⟨h3,_⟩;omega),if_neg (by rintro ⟨h3,_⟩;omega),if_pos ⟨h68.1,h68.2,h.1⟩]
  exact Option.isSome_iff_exists.1 h.2
 rw[if_neg h68] at h
 by_cases h70:rule=7∧op=10
 ·rw[if_pos h70] at h
  rw[if_neg (by rintro ⟨_,h3,_⟩;omega),if_neg h4,if_neg (by rintro ⟨h3,_⟩;omega),if_neg (by rintro ⟨h3,_⟩;omega),if_neg (by rintro ⟨h3,_⟩;omega),if_pos h70]
  exact Option.isSome_iff_exists.1 h
 rw[if_neg h70] at h
 by_cases h57:rule=5∧op=7
 ·rw[if_pos h57] at h
  simp only[Bool.and_eq_true,beq_iff_eq] at h
  rw[if_neg (by rintro ⟨_,h3,_⟩;omega),if_neg h4,if_neg (by rintro ⟨h3,_⟩;omega),if_pos ⟨h57.1,h57.2,h.1⟩]
  exact Option.isSome_iff_exists.1 h.2
 rw[if_neg h57] at h
 by_cases h13:rule=1∧op=3
 ·rw[if_pos h13] at h
  simp only[Bool.and_eq_true,beq_iff_eq] at h
  rw[if_pos ⟨h13.1,h13.2,h.1,h.2⟩]
  exact⟨_,rfl⟩
 rw[if_neg h13] at h
 cases h
def ruleOrder:List Int:=[3,4,6,7,5,1,2,11,8,9]
def qdE (e:List CExpr) (r:Int):Option Nat:=(List.range e.length).find? fun i=>qvs r (qo7 e) (qbb e i)
def qhD (e:List CExpr):Option (Int × Nat):=ruleOrder.findSome? fun r=>(qdE e r).map fun i=>(r,i)
theorem qfZ {e:List CExpr} {r:Int} {i:Nat} (h:qhD e=some (r,i)):r∈ruleOrder∧i<e.length∧qvs r (qo7 e) (qbb e i)=true:=by
 obtain⟨q,h1,h2⟩:=List.exists_of_findSome?_eq_some h
 cases hf:qdE e q with
 | none=>rw[hf] at h2;cases h2
 | some j =>
   rw[hf] at h2
   cases h2
   unfold qdE at hf
   exact⟨h1,List.mem_range.1 (List.mem_of_find?_eq_some hf),by simpa using List.find?_some hf⟩
theorem qgx {r:Int} (h:r∈ruleOrder):1≤r∧r≤12∧r≠10∧r≠12:=by
 unfold ruleOrder at h
 simp only[List.mem_cons,List.not_mem_nil,or_false] at h
 omega
def qhJ:Nat→List CExpr→List CExpr × List (Int × Nat)
 | 0,e=>(e,[])
 | k + 1,e =>
   match qhD e with
   | none=>(e,[])
   | some (r,i)=>if (qbv e r i 0).2=0 then ((qhJ k (qbv e r i 0).1).1,(r,i)::(qhJ k (qbv e r i 0).1).2) else (e,[])
theorem qpJ:∀ (k:Nat) (e:List CExpr),(qhJ k e).2.length≤k
 | 0,e=>Nat.le_refl _
 | k + 1,e => by
   rw[qhJ]
   cases h:qhD e with
   | none=>simp
   | some p =>
     obtain⟨r,i⟩:=p
     dsimp only
     by_cases hz:(qbv e r i 0).2=0
     ·rw[if_pos hz]
      have:=qpJ k (qbv e r i 0).1
      simp
      omega
     ·rw[if_neg hz];simp
structure Norm (e:List CExpr):Prop where
 ok:qaN e=0
 fit:∀ x∈e,NodeFit x
 list:qa3 (qbl e)=e
theorem qjH {e:List CExpr} (hz:qaN e=0) (hf:∀ x∈e,NodeFit x):Norm (qa3 (qbl e)) :=
 ⟨qp4 hz,qiJ _ 0 (qi9 hz hf).1,by rw[qfV]⟩
theorem qhE {e:List CExpr} (h:Norm e) {r:Int} {i:Nat} (hi:i<e.length) (h0:(qbv e r i 0).2=0):Norm (qbv e r i 0).1:=by
 unfold qbv at *
 rw[if_pos h.ok] at h0 ⊢
 by_cases hr:r<1∨12<r
 ·rw[if_pos hr] at h0;exact absurd (show (4:Int)=0 from h0) (by decide)
 rw[if_neg hr,if_neg (by omega),Int.toNat_natCast] at h0 ⊢
 cases hq:qsW r 0 (qbb e i) with
 | none=>rw[hq] at h0;exact absurd (show (12:Int)=0 from h0) (by decide)
 | some t' =>
   rw[hq] at h0
   unfold qiY at h0 ⊢
   dsimp only at h0 ⊢
   by_cases hc:qaN (qa3 (qcL e i t' (e.length-1)))=0
   ·rw[if_pos hc]
    have hT:=(qbo h.ok).1
    have hg:=qlE h.ok h.fit i hi
    obtain⟨q1,q2,q3⟩:=qpI r 0 _ hg hq
    have hfit:=(qsV hT.ahead i hi t' q1 420 (by omega) (fun k hk=>qjY h.ok h.fit k hk)) (e.length-1) (by have:=hT.pos;omega)
    exact⟨hc,qiJ _ 0 hfit.1,by rw[qfV]⟩
   ·rw[if_neg hc] at h0;exact absurd (show (2:Int)=0 from h0) (by decide)
theorem qpA:∀ (k:Nat) {e:List CExpr},Norm e→Norm (qhJ k e).1
 | 0,e,h=>h
 | k + 1,e,h => by
   rw[qhJ]
   cases hn:qhD e with
   | none=>exact h
   | some p =>
     obtain⟨r,i⟩:=p
     dsimp only
     by_cases hz:(qbv e r i 0).2=0
     ·rw[if_pos hz]
      exact qpA k (qhE h (qfZ hn).2.1 hz)
     ·rw[if_neg hz];exact h
theorem qnp:∀ (k:Nat) {e:List CExpr},Norm e→(qhJ k e).2.length<k→∀ (r:Int) (i:Nat),qhD (qhJ k e).1=some (r,i)→(qbv (qhJ k e).1 r i 0).2=2
 | 0,e,_,h=>absurd h (by omega)
 | k + 1,e,hN,h => by
   intro r i
   rw[qhJ] at h ⊢
   cases hn:qhD e with
   | none =>
     intro h2
     dsimp only at h2
     rw[hn] at h2
     cases h2
   | some p =>
     obtain⟨r',i'⟩:=p
     rw[hn] at h
     dsimp only at h ⊢
     obtain⟨s1,s2,s3⟩:=qfZ hn
     by_cases hz:(qbv e r' i' 0).2=0
     ·rw[if_pos hz] at h ⊢
      exact qnp k (qhE hN s2 hz) (by simpa using h) r i
     ·rw[if_neg hz]
      intro h2
      dsimp only at h2 ⊢
      rw[hn] at h2
      cases h2
      obtain⟨t',ht⟩:=qvZ hN.ok hN.fit r i s2 s3
      have ho:=qgx s1
      unfold qbv at hz ⊢
      rw[if_pos hN.ok,if_neg (by omega),if_neg (by omega),Int.toNat_natCast,ht] at hz ⊢
      unfold qiY at hz ⊢
      dsimp only at hz ⊢
      by_cases hc:qaN (qa3 (qcL e i t' (e.length-1)))=0
      ·rw[if_pos hc] at hz;exact absurd rfl hz
      ·rw[if_neg hc]
end Go.Abs
