/-
  PARTS OF A PROOF, joined: an abstract machine for quiet code, its evaluation, and what the seat's functions answer on it. Conditions: none.
-/
import Derived.Test.YtpchghpipgpkfaaDoorRP
set_option linter.unusedVariables false
set_option linter.unusedSimpArgs false
set_option maxRecDepth 100000
set_option maxHeartbeats 8000000
namespace Go.Abs
def qwN (e:List CExpr) (id:Int):Nat:=(e.filter fun x=>x.op==0 && x.n==id).length
def bdT (t:CTree):List Int:=(qbp t).flatMap qch
def quH (ts:List CTree):List Int:=(qbr ts).flatMap qch
theorem qnq (op n:Int) (binds:List Int) (kids:List CTree) (alts:List CAlt):bdT (.mk op n binds kids alts)=quH kids++qbz op binds alts:=by
 unfold bdT quH
 rw[qbp,List.flatMap_append]
 simp[qch]
theorem qiK {k:CTree} {ks:List CTree} (h:k∈ks) {v:Int} (hv:v∈bdT k):v∈quH ks:=by
 unfold bdT at hv
 obtain⟨l,h1,h2⟩:=List.mem_flatMap.1 hv
 exact List.mem_flatMap.2 ⟨l,qfG h l h1,h2⟩
theorem qmL {id:Int} {t:CTree} (h:qd0 id t≠0) (hb:id∉bdT t):qcA id t:=by
 rcases qtu id t h with ⟨l,h1,h2⟩ | h1
 ·exact absurd (List.mem_flatMap.2 ⟨l,h1,h2⟩) hb
 ·exact h1
theorem qlR {id:Int}:∀ {ks:List CTree},(∀ k∈ks,qd0 id k=0)→qcK id ks=0
 | [],_=>by rw[qcK]
 | k::ks,h=>by rw[qcK,h k List.mem_cons_self,qlR fun q hq=>h q (List.mem_cons_of_mem _ hq)]
theorem qkt {s:CTree}:∀ {ks:List CTree},s∈qdr ks→∃ k∈ks,s∈qks k
 | k :: ks,h => by
   rw[qdr] at h
   rcases List.mem_append.1 h with h | h
   ·exact⟨k,List.mem_cons_self,h⟩
   ·obtain⟨q,h1,h2⟩:=qkt h
    exact⟨q,List.mem_cons_of_mem _ h1,h2⟩
theorem qpv {s t:CTree} (h:s∈qks t) {v:Int} (hv:v∈bdT s):v∈bdT t:=by
 unfold bdT at *
 exact (qiy qch (qmY t s h).2.2).subset hv
theorem qfo (k:CTree) (ks:List CTree):quH (k::ks)=bdT k++quH ks:=by
 unfold quH bdT
 rw[qbr,List.flatMap_append]
theorem qyr {id n:Int} {v body:CTree} {alts:List CAlt} (t:CTree):BGt t→(bdT t).Nodup→¬ qcA id t→(.mk 4 n [id] [v,body] alts)∈qks t→qd0 id t=qd0 id body:=by
 induction t using CTree.ind with
 | h op m binds kids as ih =>
   intro hg hn hf hs
   have hlet:id∈bdT (.mk 4 n [id] [v,body] alts):=by
    rw[qnq]
    exact List.mem_append_right _ (List.mem_append_left _ List.mem_cons_self)
   rw[qnq] at hn
   obtain⟨n1,n2,n3⟩:=List.nodup_append.1 hn
   rw[qks] at hs
   have hkf:∀ (j:Nat) (hj:j<kids.length),id∉qbg op binds as j→¬ qcA id kids[j]:=by
    intro j hj hb h
    refine hf ?_
    rw[qcA]
    exact .inr ((qcN id op binds as kids 0).2 ⟨j,hj,h,by rw[Nat.zero_add];exact hb⟩)
   rcases List.mem_append.1 hs with hs | hs
   ·cases hg with
    | mk _ _ _ _ _ g1 g2 g3 =>
    have h0:op≠0:=by
     intro h0
     obtain⟨hk,_⟩:=g2 h0
     rw[hk,qdr] at hs
     cases hs
    obtain⟨k,hk,hsk⟩:=qkt hs
    have hidb:id∉qbz op binds as:=fun h=>n3 id (qiK hk (qpv hsk hlet)) id h rfl
    have hnf:∀ q∈kids,¬ qcA id q:=by
     intro q hq
     obtain⟨j,hj,rfl⟩:=List.getElem_of_mem hq
     exact hkf j hj fun h=>hidb (qgZ h)
    rw[qd0,if_neg h0]
    have key:∀ ks:List CTree,(∀ q∈ks,q∈kids)→(quH ks).Nodup→(.mk 4 n [id] [v,body] alts)∈qdr ks→qcK id ks=qd0 id body:=by
     intro ks
     induction ks with
     | nil=>intro _ _ h;rw[qdr] at h;cases h
     | cons a r ihr =>
       intro hsub hnd h
       rw[qfo] at hnd
       obtain⟨d1,d2,d3⟩:=List.nodup_append.1 hnd
       rw[qdr] at h
       rw[qcK]
       rcases List.mem_append.1 h with h | h
       ·rw[ih a (hsub a List.mem_cons_self) (g3 a (hsub a List.mem_cons_self)) d1 (hnf a (hsub a List.mem_cons_self)) h,qlR fun q hq=>?_,Nat.add_zero]
        refine Classical.not_not.1 fun hc=>hnf q (hsub q (List.mem_cons_of_mem _ hq)) (qmL hc fun hb=>?_)
        exact d3 id (qpv h hlet) id (qiK hq hb) rfl
       ·obtain⟨q,hq,hsq⟩:=qkt h
        have ha:qd0 id a=0:=by
         refine Classical.not_not.1 fun hc=>hnf a (hsub a List.mem_cons_self) (qmL hc fun hb=>?_)
         exact d3 id hb id (qiK hq (qpv hsq hlet)) rfl
        rw[ha,Nat.zero_add]
        exact ihr (fun q hq=>hsub q (List.mem_cons_of_mem _ hq)) d2 h
    exact key kids (fun _ h=>h) n1 hs
   ·rw[List.mem_singleton] at hs
    injection hs with e1 e2 e3 e4 e5
    subst e1 e2 e3 e4 e5
    rw[qd0,if_neg (by decide),qcK,qcK,qcK,Nat.add_zero]
    have hv:qd0 id v=0:=by
     refine Classical.not_not.1 fun hc=>?_
     have hnb:id∉bdT v:=fun hb=>n3 id (qiK List.mem_cons_self hb) id (List.mem_append_left _ List.mem_cons_self) rfl
     refine hkf 0 (by simp) ?_ (qmL hc hnb)
     unfold qbg
     rw[if_neg (by rintro (h | h | ⟨_,h⟩)<;>exact absurd h (by decide)),if_neg (by decide)]
     simp
    rw[hv,Nat.zero_add]
theorem qlP (id:Int) (t:CTree):BGt t→qd0 id t=(qbp t).countP fun l=>l.op==0 && l.n==id:=by
 induction t using CTree.ind with
 | h op n binds kids alts ih =>
   intro hg
   cases hg with
   | mk _ _ _ _ _ g1 g2 g3 =>
   rw[qbp,List.countP_append,List.countP_singleton,qd0]
   by_cases h0:op=0
   ·rw[if_pos h0,(g2 h0).1,qbr,h0]
    by_cases hn:n=id
    ·simp[hn]
    ·simp[hn]
   ·have hb:(op==0)=false:=by simpa using h0
    rw[if_neg h0,hb,Bool.false_and,if_neg (by decide),Nat.add_zero]
    have key:∀ ks:List CTree,(∀ q∈ks,q∈kids)→qcK id ks=(qbr ks).countP fun l=>l.op==0 && l.n==id:=by
     intro ks
     induction ks with
     | nil=>intro _;rw[qcK,qbr];rfl
     | cons a r ihr =>
       intro hs
       rw[qcK,qbr,List.countP_append,ih a (hs a List.mem_cons_self) (g3 a (hs a List.mem_cons_self)),ihr fun q hq=>hs q (List.mem_cons_of_mem _ hq)]
    exact key kids fun _ h=>h
theorem qwO {e:List CExpr} (hz:qa2 e=0) (id:Int):qwN e id=qd0 id (qbw e):=by
 have hT:=(qbM hz).1
 rw[qlP id _ (qqh _ (ql5 hz).lab),(qda e hT).countP_eq]
 unfold qwN
 rw[← List.countP_eq_length_filter,List.countP_map]
 rfl
end Go.Abs
