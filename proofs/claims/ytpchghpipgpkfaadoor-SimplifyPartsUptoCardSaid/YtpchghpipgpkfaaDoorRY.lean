/-
  PARTS OF A PROOF, joined: an abstract machine for quiet code, its evaluation, and what the seat's functions answer on it. Conditions: none.
-/
import Derived.Test.YtpchghpipgpkfaaDoorRP
set_option linter.unusedVariables false
set_option linter.unusedSimpArgs false
set_option maxRecDepth 100000
set_option maxHeartbeats 8000000
namespace Go.Abs
def qtG (e:List CExpr) (id:Int):Nat:=(e.filter fun x=>x.op==0 && x.n==id).length
def qn5 (rule:Int) (v:CTree) (many:Nat):Bool :=
 if rule=2 then qmi v else if rule=3 then many==0 && qh9 v else if rule=8 then qc9 v==4
 else if rule=9 then (match v with | .mk vo _ _ _ va=>vo==7 && va.length==1) else if rule=11 then qc9 v==2 && many==1 else false
def qxN (rule:Int) (cnt:Int→Nat):CTree→Bool
 | .mk op n binds kids alts =>
   if op=4 then qn5 rule (kids.getD 0 .none) (cnt (binds.getD 0 0))
   else if rule=4∧op=5 then (binds.all fun id=>cnt id==0) || qhF (.mk op n binds kids alts)
   else if rule=6∧op=8 then kids.length==2 && (qoQ (.mk op n binds kids alts)).isSome
   else if rule=7∧op=10 then (qo9 (.mk op n binds kids alts)).isSome
   else if rule=5∧op=7 then qc9 (kids.getD 0 .none)==6 && (qln (.mk op n binds kids alts)).isSome
   else if rule=1∧op=3 then qc9 (kids.getD 0 .none)==2 && (qhL (kids.getD 0 .none)).length==kids.length-1
   else false
def ruleOrder:List Int:=[3,4,6,7,5,1,2,11,8,9]
def qdz (e:List CExpr) (r:Int):Option Nat:=(List.range e.length).find? fun i=>qxN r (qtG e) (qbk e i)
def qjz (e:List CExpr):Option (Int × Nat):=ruleOrder.findSome? fun r=>(qdz e r).map fun i=>(r,i)
theorem qkS {e:List CExpr} {r:Int} {i:Nat} (h:qjz e=some (r,i)):r∈ruleOrder∧i<e.length∧qxN r (qtG e) (qbk e i)=true:=by
 obtain⟨q,h1,h2⟩:=List.exists_of_findSome?_eq_some h
 cases hf:qdz e q with
 | none=>rw[hf] at h2;cases h2
 | some j =>
   rw[hf] at h2
   cases h2
   unfold qdz at hf
   exact⟨h1,List.mem_range.1 (List.mem_of_find?_eq_some hf),by simpa using List.find?_some hf⟩
theorem qov {r:Int} (h:r∈ruleOrder):1≤r∧r≤12∧r≠10∧r≠12:=by
 unfold ruleOrder at h
 simp only[List.mem_cons,List.not_mem_nil,or_false] at h
 omega
def qed:Nat→List CExpr→List CExpr × List (Int × Nat)
 | 0,e=>(e,[])
 | k + 1,e =>
   match qjz e with
   | none=>(e,[])
   | some (r,i)=>if (qbM e r i 0).2=0 then ((qed k (qbM e r i 0).1).1,(r,i)::(qed k (qbM e r i 0).1).2) else (e,[])
theorem qlW:∀ (k:Nat) (e:List CExpr),(qed k e).2.length≤k
 | 0,e=>Nat.le_refl _
 | k + 1,e => by
   rw[qed]
   cases h:qjz e with
   | none=>simp
   | some p =>
     obtain⟨r,i⟩:=p
     dsimp only
     by_cases hz:(qbM e r i 0).2=0
     ·rw[if_pos hz]
      have:=qlW k (qbM e r i 0).1
      simp
      omega
     ·rw[if_neg hz];simp
theorem qpF:∀ (a b:Nat) (e:List CExpr),qed (a+b) e=((qed b (qed a e).1).1,(qed a e).2++(qed b (qed a e).1).2)
 | 0,b,e=>by rw[Nat.zero_add];rfl
 | a + 1,b,e => by
   rw[show a+1+b=(a+b)+1 by omega,qed,qed]
   cases h:qjz e with
   | none =>
     dsimp only
     have:qed b e=(e,[]):=by
      cases b with
      | zero=>rfl
      | succ b=>rw[qed,h]
     rw[this]
     rfl
   | some p =>
     obtain⟨r,i⟩:=p
     dsimp only
     by_cases hz:(qbM e r i 0).2=0
     ·rw[if_pos hz,if_pos hz,qpF a b]
      rfl
     ·rw[if_neg hz,if_neg hz]
      dsimp only
      have:qed b e=(e,[]):=by
       cases b with
       | zero=>rfl
       | succ b=>rw[qed,h];dsimp only;rw[if_neg hz]
      rw[this]
      rfl
structure Norm (e:List CExpr):Prop where
 ok:qaR e=0
 fit:∀ x∈e,NodeFit x
 list:qa6 (qbn e)=e
theorem qm3 {e:List CExpr} (hz:qaR e=0) (hf:∀ x∈e,NodeFit x):Norm (qa6 (qbn e)) :=
 ⟨qp1 hz,qiB _ 0 (qi0 hz hf).1,by rw[qfO]⟩
theorem qkU {e:List CExpr} (h:Norm e) {r:Int} {i:Nat} (hi:i<e.length) (h0:(qbM e r i 0).2=0):Norm (qbM e r i 0).1:=by
 unfold qbM at *
 rw[if_pos h.ok] at h0 ⊢
 by_cases hr:r<1∨12<r
 ·rw[if_pos hr] at h0;exact absurd (show (4:Int)=0 from h0) (by decide)
 rw[if_neg hr,if_neg (by omega),Int.toNat_natCast] at h0 ⊢
 cases hq:quU r 0 (qbk e i) with
 | none=>rw[hq] at h0;exact absurd (show (12:Int)=0 from h0) (by decide)
 | some t' =>
   rw[hq] at h0
   unfold qlh at h0 ⊢
   dsimp only at h0 ⊢
   by_cases hc:qaR (qa6 (qcN e i t' (e.length-1)))=0
   ·rw[if_pos hc]
    have hT:=(qby h.ok).1
    have hg:=qof h.ok h.fit i hi
    obtain⟨q1,q2,q3⟩:=qpE r 0 _ hg hq
    have hfit:=(qsN hT.ahead i hi t' q1 420 (by omega) (fun k hk=>qjS h.ok h.fit k hk)) (e.length-1) (by have:=hT.pos;omega)
    exact⟨hc,qiB _ 0 hfit.1,by rw[qfO]⟩
   ·rw[if_neg hc] at h0;exact absurd (show (2:Int)=0 from h0) (by decide)
theorem qlJ:∀ (k:Nat) {e:List CExpr},Norm e→Norm (qed k e).1
 | 0,e,h=>h
 | k + 1,e,h => by
   rw[qed]
   cases hn:qjz e with
   | none=>exact h
   | some p =>
     obtain⟨r,i⟩:=p
     dsimp only
     by_cases hz:(qbM e r i 0).2=0
     ·rw[if_pos hz]
      exact qlJ k (qkU h (qkS hn).2.1 hz)
     ·rw[if_neg hz];exact h
end Go.Abs
