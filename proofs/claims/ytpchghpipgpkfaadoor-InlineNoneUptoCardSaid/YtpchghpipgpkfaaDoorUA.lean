/-
  PARTS OF A PROOF, joined: an abstract machine for quiet code, its evaluation, and what the seat's functions answer on it. Conditions: none.
-/
import Derived.Test.YtpchghpipgpkfaaDoorHF
import Derived.Test.YtpchghpipgpkfaaDoorC
set_option linter.unusedVariables false
set_option linter.unusedSimpArgs false
set_option maxRecDepth 100000
namespace Go.Abs
structure US where
 uses:IM Int
 depth:IM Int
 many:IM Int
def qzB (n d:Int) (s:US):US:=⟨qjf n (qdf n s.uses+1) s.uses,s.depth,if qdf n s.depth<d then qjf n (qdf n s.many+1) s.many else s.many⟩
structure UInv (s:RS) (u u':US):Prop where
 same:∀ b b',qbu b s.1=some b'→qdf b u.uses=qdf b' u'.uses∧qdf b u.depth=qdf b' u'.depth∧qdf b u.many=qdf b' u'.many
 low:∀ b,qbu b s.1=none→qdf b u.uses=0∧qdf b u.depth=0∧qdf b u.many=0
 high:∀ y,s.2≤y→qdf y u'.uses=0∧qdf y u'.depth=0∧qdf y u'.many=0
 inj:∀ b c y,qbu b s.1=some y→qbu c s.1=some y→b=c
 nm:NM s
theorem UInv.put {s:RS} {u u':US} (h:UInv s u u') (h0:0≤s.2) {b:Int} (hb:qbu b s.1=none):UInv (qjf b s.2 s.1,s.2+1) u u':=by
 refine⟨fun x y hx=>?_,fun x hx=>?_,fun y hy=>?_,fun x c y hx hc=>?_,fun x y hx=>?_⟩<;>dsimp only at *
 ·rw[qcR] at hx
  split at hx
  ·rename_i e
   injection hx with hx
   subst e
   subst hx
   obtain⟨a1,a2,a3⟩:=h.low x hb
   obtain⟨b1,b2,b3⟩:=h.high s.2 (Int.le_refl _)
   exact⟨by rw[a1,b1],by rw[a2,b2],by rw[a3,b3]⟩
  ·exact h.same x y hx
 ·rw[qcR] at hx
  split at hx
  ·cases hx
  ·exact h.low x hx
 ·exact h.high y (by omega)
 ·rw[qcR] at hx hc
  split at hx<;>split at hc
  ·rename_i e1 e2;rw[e1,e2]
  ·injection hx with hx;have:=(h.nm c y hc).2;omega
  ·injection hc with hc;have:=(h.nm x y hx).2;omega
  ·exact h.inj x c y hx hc
 ·rw[qcR] at hx
  split at hx
  ·injection hx with hx;omega
  ·have:=h.nm x y hx;omega
theorem UInv.frL {u u':US} (l:List Int):∀ {s:RS},UInv s u u'→0≤s.2→l.Nodup→(∀ x∈l,qbu x s.1=none)→UInv (frL l s) u u':=by
 induction l with
 | nil=>exact fun h _ _ _=>h
 | cons v l ih =>
   intro s h h0 hn hk
   rw[qi7]
   rw[List.nodup_cons] at hn
   refine ih (h.put h0 (hk v (by simp))) (by show 0≤s.2+1;omega) hn.2 fun x hx=>?_
   dsimp only
   have hxv:x≠v:=fun e=>hn.1 (by rw[← e];exact hx)
   rw[qcR,if_neg hxv]
   exact hk x (by simp[hx])
theorem UInv.hit {s:RS} {u u':US} (h:UInv s u u') {n n':Int} (hn:qbu n s.1=some n') (d:Int):UInv s (qzB n d u) (qzB n' d u'):=by
 obtain⟨q1,q2,q3⟩:=h.same n n' hn
 have key:∀ (p p':IM Int) (w w':Int),w=w'→(∀ b b',qbu b s.1=some b'→qdf b p=qdf b' p')→∀ b b',qbu b s.1=some b'→qdf b (qjf n w p)=qdf b' (qjf n' w' p'):=by
  intro p p' w w' hw hp b b' hb
  rw[qcj,qcj]
  by_cases e:b=n
  ·subst e
   rw[hb] at hn
   injection hn with hn
   rw[if_pos rfl,if_pos hn,hw]
  ·have e2:b'≠n':=fun e'=>e (h.inj b n n' (by rw[← e'];exact hb) hn)
   rw[if_neg e,if_neg e2]
   exact hp b b' hb
 have k1:=key u.uses u'.uses (qdf n u.uses+1) (qdf n' u'.uses+1) (by rw[q1]) (fun b b' hb=>(h.same b b' hb).1)
 have k3:=key u.many u'.many (qdf n u.many+1) (qdf n' u'.many+1) (by rw[q3]) (fun b b' hb=>(h.same b b' hb).2.2)
 have hne:∀ b,qbu b s.1=none→b≠n:=fun b hb e=>by rw[e,hn] at hb;cases hb
 have hnh:∀ y,s.2≤y→y≠n':=fun y hy e=>by have:=(h.nm n n' hn).2;omega
 unfold qzB
 refine⟨fun b b' hb=>⟨k1 b b' hb,(h.same b b' hb).2.1,?_⟩,fun b hb=>⟨?_,(h.low b hb).2.1,?_⟩,fun y hy=>⟨?_,(h.high y hy).2.1,?_⟩,h.inj,h.nm⟩<;>dsimp only
 ·rw[q2]
  split
  ·exact k3 b b' hb
  ·exact (h.same b b' hb).2.2
 ·rw[qcj,if_neg (hne b hb)]
  exact (h.low b hb).1
 ·split
  ·rw[qcj,if_neg (hne b hb)]
   exact (h.low b hb).2.2
  ·exact (h.low b hb).2.2
 ·rw[qcj,if_neg (hnh y hy)]
  exact (h.high y hy).1
 ·split
  ·rw[qcj,if_neg (hnh y hy)]
   exact (h.high y hy).2.2
  ·exact (h.high y hy).2.2
end Go.Abs
set_option maxHeartbeats 4000000
namespace Go.Abs
section
end
def UB (s:US) (N:Nat):Prop:=∀ v,0≤qdf v s.uses∧qdf v s.uses≤N∧0≤qdf v s.many∧qdf v s.many≤N
theorem UB.hit {s:US} {N:Nat} (h:UB s N) (n d:Int):UB (qzB n d s) (N+1):=by
 intro v
 have h1:=h v
 have h2:=h n
 unfold qzB
 dsimp only
 refine⟨?_,?_,?_,?_⟩
 ·rw[qcj];split<;>omega
 ·rw[qcj];split<;>omega
 ·split
  ·rw[qcj];split<;>omega
  ·omega
 ·split
  ·rw[qcj];split<;>omega
  ·omega
section
end
end Go.Abs
