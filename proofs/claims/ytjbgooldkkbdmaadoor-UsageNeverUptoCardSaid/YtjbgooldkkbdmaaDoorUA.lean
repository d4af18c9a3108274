/-
  PARTS OF A PROOF, joined: an abstract machine for quiet code, its evaluation, and what the seat's functions answer on it. Conditions: none.
-/
import Derived.Test.YtjbgooldkkbdmaaDoorHF
import Derived.Test.YtjbgooldkkbdmaaDoorC
set_option linter.unusedVariables false
set_option linter.unusedSimpArgs false
set_option maxRecDepth 100000
namespace Go.Abs
structure US where
 uses:IM Int
 depth:IM Int
 many:IM Int
def qqf (n d:Int) (s:US):US:=⟨qhi n (qbH n s.uses+1) s.uses,s.depth,if qbH n s.depth<d then qhi n (qbH n s.many+1) s.many else s.many⟩
def qcq (op:Int) (k:Nat) (d:Int):Int:=if op=2∨(op=13∧0<k) then d+1 else d
def setD (l:List Int) (d:Int) (s:US):US:=⟨s.uses,l.foldl (fun m n=>qhi n d m) s.depth,s.many⟩
mutual
def qk5:CTree→Int→US→US
 | .mk op n binds kids alts,d,s=>qhv op binds alts kids 0 d (if op=0 then qqf n d s else s)
def qhv (op:Int) (binds:List Int) (alts:List CAlt):List CTree→Nat→Int→US→US
 | [],_,_,s=>s
 | k::ks,i,d,s=>qhv op binds alts ks (i+1) d (qk5 k (qcq op i d) (setD (qbo op binds alts i) (qcq op i d) s))
end
def qjh (s:US) (n:Int):Int:=if qbH n s.uses=0 then 0 else if qbH n s.uses=1∧qbH n s.many=0 then 1 else 2
def qqA (v:Int) (ls:List Lab):Int:=(ls.countP fun l=>l.op==0 && l.n==v:Nat)
theorem qiM (v:Int) (a b:List Lab):qqA v (a++b)=qqA v a+qqA v b:=by
 unfold qqA
 rw[List.countP_append]
 omega
mutual
theorem qmC (v:Int):∀ (t:CTree) (d:Int) (s:US),qbH v (qk5 t d s).uses=qbH v s.uses+qqA v (qcR t)
 | .mk op n binds kids alts,d,s => by
   rw[qk5,qkh v op binds alts kids,qcR,qiM]
   have h1:qqA v [⟨op,n,binds,kids.map qq3,alts⟩]=if op=0∧n=v then 1 else 0:=by
    unfold qqA
    rw[List.countP_singleton]
    by_cases h0:op=0<;>by_cases hn:n=v<;>simp[h0,hn]
   rw[h1]
   by_cases h0:op=0
   ·rw[if_pos h0]
    unfold qqf
    dsimp only
    rw[qbq]
    by_cases hn:v=n
    ·subst hn;simp[h0];omega
    ·rw[if_neg hn,if_neg (fun h=>hn h.2.symm)];omega
   ·rw[if_neg h0,if_neg (fun h=>h0 h.1)];omega
theorem qkh (v op:Int) (binds:List Int) (alts:List CAlt):∀ (ks:List CTree) (i:Nat) (d:Int) (s:US),qbH v (qhv op binds alts ks i d s).uses=qbH v s.uses+qqA v (qca ks)
 | [],i,d,s=>by rw[qhv,qca];unfold qqA;simp
 | k :: ks,i,d,s => by
   rw[qhv,qkh v op binds alts ks,qmC v k,qca,qiM]
   show qbH v s.uses+_+_=_
   omega
end
def u0:US:=⟨[],[],[]⟩
def qdA (e:List CExpr):List (Int × Int):=(e.flatMap qaz).map fun n=>(n,qjh (qk5 (qbO e) 0 u0) n)
theorem qqy {e:List CExpr} (h:qbw e=0) (n:Int):qjh (qk5 (qbO e) 0 u0) n=0↔(e.any fun x=>x.op==0 && x.n==n)=false:=by
 have hT:=(qdJ h).1
 have hp:=qdT e hT
 have hc:=qmC n (qbO e) 0 u0
 have hz:qbH n u0.uses=0:=rfl
 rw[hz,Int.zero_add] at hc
 have ho:qqA n (qcR (qbO e))=0↔(e.any fun x=>x.op==0 && x.n==n)=false:=by
  unfold qqA
  rw[hp.countP_eq,List.countP_map]
  have:((fun l:Lab=>l.op==0 && l.n==n) ∘ qgz e)=fun x=>x.op==0 && x.n==n:=rfl
  rw[this,List.any_eq_false]
  constructor
  ·intro h x hx
   have h2:=List.countP_eq_zero.1 (by omega:e.countP (fun x=>x.op==0 && x.n==n)=0) x hx
   simpa using h2
  ·intro h
   have:e.countP (fun x=>x.op==0 && x.n==n)=0:=List.countP_eq_zero.2 fun x hx=>by simpa using h x hx
   omega
 rw[← ho,← hc]
 unfold qjh
 by_cases h0:qbH n (qk5 (qbO e) 0 u0).uses=0
 ·simp[h0]
 ·rw[if_neg h0]
  split<;>simp[h0]
structure UInv (s:RS) (u u':US):Prop where
 same:∀ b b',qbi b s.1=some b'→qbH b u.uses=qbH b' u'.uses∧qbH b u.depth=qbH b' u'.depth∧qbH b u.many=qbH b' u'.many
 low:∀ b,qbi b s.1=none→qbH b u.uses=0∧qbH b u.depth=0∧qbH b u.many=0
 high:∀ y,s.2≤y→qbH y u'.uses=0∧qbH y u'.depth=0∧qbH y u'.many=0
 inj:∀ b c y,qbi b s.1=some y→qbi c s.1=some y→b=c
 nm:NM s
theorem UInv.put {s:RS} {u u':US} (h:UInv s u u') (h0:0≤s.2) {b:Int} (hb:qbi b s.1=none):UInv (qhi b s.2 s.1,s.2+1) u u':=by
 refine⟨fun x y hx=>?_,fun x hx=>?_,fun y hy=>?_,fun x c y hx hc=>?_,fun x y hx=>?_⟩<;>dsimp only at *
 ·rw[qde] at hx
  split at hx
  ·rename_i e
   injection hx with hx
   subst e
   subst hx
   obtain⟨a1,a2,a3⟩:=h.low x hb
   obtain⟨b1,b2,b3⟩:=h.high s.2 (Int.le_refl _)
   exact⟨by rw[a1,b1],by rw[a2,b2],by rw[a3,b3]⟩
  ·exact h.same x y hx
 ·rw[qde] at hx
  split at hx
  ·cases hx
  ·exact h.low x hx
 ·exact h.high y (by omega)
 ·rw[qde] at hx hc
  split at hx<;>split at hc
  ·rename_i e1 e2;rw[e1,e2]
  ·injection hx with hx;have:=(h.nm c y hc).2;omega
  ·injection hc with hc;have:=(h.nm x y hx).2;omega
  ·exact h.inj x c y hx hc
 ·rw[qde] at hx
  split at hx
  ·injection hx with hx;omega
  ·have:=h.nm x y hx;omega
theorem UInv.hit {s:RS} {u u':US} (h:UInv s u u') {n n':Int} (hn:qbi n s.1=some n') (d:Int):UInv s (qqf n d u) (qqf n' d u'):=by
 obtain⟨q1,q2,q3⟩:=h.same n n' hn
 have key:∀ (p p':IM Int) (w w':Int),w=w'→(∀ b b',qbi b s.1=some b'→qbH b p=qbH b' p')→∀ b b',qbi b s.1=some b'→qbH b (qhi n w p)=qbH b' (qhi n' w' p'):=by
  intro p p' w w' hw hp b b' hb
  rw[qbq,qbq]
  by_cases e:b=n
  ·subst e
   rw[hb] at hn
   injection hn with hn
   rw[if_pos rfl,if_pos hn,hw]
  ·have e2:b'≠n':=fun e'=>e (h.inj b n n' (by rw[← e'];exact hb) hn)
   rw[if_neg e,if_neg e2]
   exact hp b b' hb
 have k1:=key u.uses u'.uses (qbH n u.uses+1) (qbH n' u'.uses+1) (by rw[q1]) (fun b b' hb=>(h.same b b' hb).1)
 have k3:=key u.many u'.many (qbH n u.many+1) (qbH n' u'.many+1) (by rw[q3]) (fun b b' hb=>(h.same b b' hb).2.2)
 have hne:∀ b,qbi b s.1=none→b≠n:=fun b hb e=>by rw[e,hn] at hb;cases hb
 have hnh:∀ y,s.2≤y→y≠n':=fun y hy e=>by have:=(h.nm n n' hn).2;omega
 unfold qqf
 refine⟨fun b b' hb=>⟨k1 b b' hb,(h.same b b' hb).2.1,?_⟩,fun b hb=>⟨?_,(h.low b hb).2.1,?_⟩,fun y hy=>⟨?_,(h.high y hy).2.1,?_⟩,h.inj,h.nm⟩<;>dsimp only
 ·rw[q2]
  split
  ·exact k3 b b' hb
  ·exact (h.same b b' hb).2.2
 ·rw[qbq,if_neg (hne b hb)]
  exact (h.low b hb).1
 ·split
  ·rw[qbq,if_neg (hne b hb)]
   exact (h.low b hb).2.2
  ·exact (h.low b hb).2.2
 ·rw[qbq,if_neg (hnh y hy)]
  exact (h.high y hy).1
 ·split
  ·rw[qbq,if_neg (hnh y hy)]
   exact (h.high y hy).2.2
  ·exact (h.high y hy).2.2
def qun (m:IM Int) (x:Int):Int:=(qbi x m).getD 0
theorem UInv.setD {s:RS} (d:Int) (l:List Int):∀ {u u':US},UInv s u u'→(∀ x∈l,∃ y,qbi x s.1=some y)→UInv s (setD l d u) (setD (l.map (qun s.1)) d u'):=by
 induction l with
 | nil=>exact fun h _=>h
 | cons x l ih =>
   intro u u' h hl
   obtain⟨y,hy⟩:=hl x (by simp)
   have hr:qun s.1 x=y:=by unfold qun;rw[hy];rfl
   have h1:UInv s ⟨u.uses,qhi x d u.depth,u.many⟩ ⟨u'.uses,qhi y d u'.depth,u'.many⟩:=by
    refine⟨fun b b' hb=>⟨(h.same b b' hb).1,?_,(h.same b b' hb).2.2⟩,fun b hb=>⟨(h.low b hb).1,?_,(h.low b hb).2.2⟩,fun q hq=>⟨(h.high q hq).1,?_,(h.high q hq).2.2⟩,h.inj,h.nm⟩<;>dsimp only
    ·rw[qbq,qbq]
     by_cases e:b=x
     ·subst e
      rw[hb] at hy
      injection hy with hy
      rw[if_pos rfl,if_pos hy]
     ·have e2:b'≠y:=fun e'=>e (h.inj b x y (by rw[← e'];exact hb) hy)
      rw[if_neg e,if_neg e2]
      exact (h.same b b' hb).2.1
    ·rw[qbq,if_neg (fun e=>by rw[e,hy] at hb;cases hb)]
     exact (h.low b hb).2.1
    ·rw[qbq,if_neg (fun e=>by have:=(h.nm x y hy).2;omega)]
     exact (h.high q hq).2.1
   have h2:=ih h1 fun z hz=>hl z (by simp[hz])
   unfold Go.Abs.setD at h2 ⊢
   rw[List.map_cons,List.foldl_cons,List.foldl_cons,hr]
   exact h2
end Go.Abs
set_option maxHeartbeats 4000000
namespace Go.Abs
def uh (s:US):Heap:=[.box [.map (some 1),.map (some 2),.map (some 3)],.map (encB s.uses),.map (encB s.depth),.map (encB s.many)]
section
variable {L:Lib}
theorem qvl (T K:AVal) (hT:qap T=true) (hK:qap K=true) (kid:CTree) (l:List Int) (hl:l.length<2 ^ 30) (d d':Int) (n k:Nat) (s:US) :
  qbd L.pure (call L) 4 [0,1,2,7,8,50,51,52,65,66,67] [0,1,2,7,8,50,51,52] 2 qhG
   ⟨kt [0,1,2,7,8,50,51,52,65,66,67] [.ptr (some (0,0)),T,.int .i64 d,qay kid,.int .i64 d',K,.int .i64 n,.int .i64 k,.list (l.map qat) none,.int .i64 l.length,.int .i64 ((0:Nat):Int)],uh s⟩ =
   some (.normal,⟨kt [0,1,2,7,8,50,51,52] [.ptr (some (0,0)),T,.int .i64 d,qay kid,.int .i64 d',K,.int .i64 n,.int .i64 k],uh (setD l d' s)⟩):=by
 have hfold:l.foldl (fun s v=>(⟨s.uses,qhi v d' s.depth,s.many⟩:US)) s=setD l d' s:=by
  have:∀ (l:List Int) (s:US),l.foldl (fun s v=>(⟨s.uses,qhi v d' s.depth,s.many⟩:US)) s=⟨s.uses,l.foldl (fun m n=>qhi n d' m) s.depth,s.many⟩:=by
   intro l
   induction l with
   | nil=>intro s;rfl
   | cons v l ih=>intro s;rw[List.foldl_cons,List.foldl_cons,ih]
  exact this l s
 rw[← hfold]
 obtain⟨tc,htc,hdt⟩:=qds kid
 rw[htc]
 refine (qdQ (pure:=L.pure) (call:=call L) l (fun s v=>(⟨s.uses,qhi v d' s.depth,s.many⟩:US))
  (fun s j=>⟨kt [0,1,2,7,8,50,51,52,65,66,67] [.ptr (some (0,0)),T,.int .i64 d,.vptr tc 0,.int .i64 d',K,.int .i64 n,.int .i64 k,.list (l.map qat) none,.int .i64 l.length,.int .i64 j],uh s⟩)
  (fun s=>⟨kt [0,1,2,7,8,50,51,52] [.ptr (some (0,0)),T,.int .i64 d,.vptr tc 0,.int .i64 d',K,.int .i64 n,.int .i64 k],uh s⟩) (fun _ _=>True) s trivial ?_ ?_).2
 ·intro j hj s _
  obtain⟨h1,h2,h3⟩:=qaV qat l hl j hj
  refine⟨?_,trivial⟩
  generalize l[j]=v at *
  have hup:=fun (h:Heap) (hr:h[2]? = some (.map (encB s.depth)))=>qvk h 2 v d' s.depth hr
  unfold uh
  unfold qhG
  simp -implicitDefEqProofs only[ev_,aOp,opd,qaa,qau,qaC,qaB,qae,qab,qah,qak,qan,ren,renC,qaN,qa3,↓reduceIte,reduceCtorEq,Nat.reduceEqDiff,Nat.reduceAdd,Nat.reduceLT,Nat.reduceLeDiff,qa7,qac,h1,h2,h3,hup,hT,hK,hdt,qcW,qcX]
 ·intro s _
  have h0:=qa0 l.length
  unfold uh
  unfold qhG
  simp -implicitDefEqProofs only[ev_,aOp,opd,qaa,qaC,qaB,qab,gcE,qan,ren,renC,qaN,qa3,↓reduceIte,reduceCtorEq,Nat.reduceEqDiff,Nat.reduceAdd,Nat.reduceLT,Nat.reduceLeDiff,h0,hT,hK,hdt,qcW,qcX]
end
def UB (s:US) (N:Nat):Prop:=∀ v,0≤qbH v s.uses∧qbH v s.uses≤N∧0≤qbH v s.many∧qbH v s.many≤N
theorem UB.hit {s:US} {N:Nat} (h:UB s N) (n d:Int):UB (qqf n d s) (N+1):=by
 intro v
 have h1:=h v
 have h2:=h n
 unfold qqf
 dsimp only
 refine⟨?_,?_,?_,?_⟩
 ·rw[qbq];split<;>omega
 ·rw[qbq];split<;>omega
 ·split
  ·rw[qbq];split<;>omega
  ·omega
 ·split
  ·rw[qbq];split<;>omega
  ·omega
mutual
theorem UB.walk:∀ (t:CTree) (d:Int) (s:US) (N:Nat),UB s N→UB (qk5 t d s) (N+qez t)
 | .mk op n binds kids alts,d,s,N,h => by
   rw[qk5,qez]
   have h1:UB (if op=0 then qqf n d s else s) (N+1):=by
    split
    ·exact h.hit n d
    ·intro v;have:=h v;omega
   have h2:=UB.walks op binds alts kids 0 d _ _ h1
   intro v
   have:=h2 v
   omega
theorem UB.walks (op:Int) (binds:List Int) (alts:List CAlt):∀ (ks:List CTree) (i:Nat) (d:Int) (s:US) (N:Nat),UB s N→UB (qhv op binds alts ks i d s) (N+qbl ks)
 | [],i,d,s,N,h=>by rw[qhv,qbl];exact h
 | k :: ks,i,d,s,N,h => by
   rw[qhv,qbl]
   have h1:UB (setD (qbo op binds alts i) (qcq op i d) s) N:=h
   have h2:=UB.walks op binds alts ks (i+1) d _ _ (UB.walk k (qcq op i d) _ _ h1)
   intro v
   have:=h2 v
   omega
end
theorem qkg (op:Int) (binds:List Int) (alts:List CAlt) (d:Int):∀ (ks:List CTree) (i:Nat) (s:US),qbb (ε:=Unit) (fun i s k=>.ok (qk5 k (qcq op i d) (setD (qbo op binds alts i) (qcq op i d) s))) ks i s=.ok (qhv op binds alts ks i d s)
 | [],i,s=>by rw[qbb,qhv]
 | k::ks,i,s=>by rw[qbb,qhv];exact qkg op binds alts d ks (i+1) _
def quJ (L:Lib) (t:CTree):Prop:=∀ (d:Int) (s:US) (N:Nat),0≤d→d+hgt t<2 ^ 40→UB s N→N+qez t<2 ^ 40 →
 call L 285 [.ptr (some (0,0)),qay t,.int .i64 d] (uh s)=some (.val (.tuple []),uh (qk5 t d s))
section
variable {L:Lib} (hL:Plain L)
include hL
theorem qpg (h295:L.fns 295=some fn295) (op:Int) (cs:List AVal) (k:Nat) (h:Heap):pcall L 295 [.vptr (.int .i64 op::cs) 0,.int .i64 k] h=some (.val (.bool (decide (op=2∨(op=13∧0<k)))),h):=by
 refine qa5 hL h295 rfl ?_ h
 have hk:((0:Int)<k)=(0<k):=by simp
 have e2:(op==2)=decide (op=2):=rfl
 have e13:(op==13)=decide (op=13):=rfl
 by_cases h2:op=2
 ·have:(op==2)=true:=by simpa using h2
  have hd:decide (op=2∨(op=13∧0<k))=true:=by simp[h2]
  rw[hd]
  unfold fn295
  simp -implicitDefEqProofs only[ev_,aOp,opd,qaa,qaC,qaB,qab,qag,qah,qak,qaw,qad,qai,qam,↓reduceIte,reduceCtorEq,Nat.reduceEqDiff,qaj,this]
 ·have q2:(op==2)=false:=by simpa using h2
  by_cases h13:op=13
  ·have q13:(op==13)=true:=by simpa using h13
   by_cases hz:0<k
   ·have hd:decide (op=2∨(op=13∧0<k))=true:=by simp[h13,hz]
    rw[hd]
    have hz':(0:Int)<k:=by omega
    unfold fn295
    simp -implicitDefEqProofs only[ev_,aOp,opd,qaa,qaC,qaB,qab,qag,qah,qak,qaw,qad,qai,qam,↓reduceIte,reduceCtorEq,Nat.reduceEqDiff,gt_iff_lt,qaj,q2,q13,hz']
   ·have hd:decide (op=2∨(op=13∧0<k))=false:=by simp[h13,hz]
    rw[hd]
    have hz':¬ (0:Int)<k:=by omega
    unfold fn295
    simp -implicitDefEqProofs only[ev_,aOp,opd,qaa,qaC,qaB,qab,qag,qah,qak,qaw,qad,qai,qam,↓reduceIte,reduceCtorEq,Nat.reduceEqDiff,gt_iff_lt,qaj,q2,q13,hz']
  ·have q13:(op==13)=false:=by simpa using h13
   have hd:decide (op=2∨(op=13∧0<k))=false:=by simp[h2,h13]
   rw[hd]
   unfold fn295
   simp -implicitDefEqProofs only[ev_,aOp,opd,qaa,qaC,qaB,qab,qag,qah,qak,qaw,qad,qai,qam,↓reduceIte,reduceCtorEq,Nat.reduceEqDiff,qaj,q2,q13]
end
end Go.Abs
