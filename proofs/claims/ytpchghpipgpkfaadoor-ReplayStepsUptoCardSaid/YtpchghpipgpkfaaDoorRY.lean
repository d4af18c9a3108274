/-
  PARTS OF A PROOF, joined: an abstract machine for quiet code, its evaluation, and what the seat's functions answer on it. Conditions: none.
-/
import Derived.Test.YtpchghpipgpkfaaDoorRP
set_option linter.unusedVariables false
set_option linter.unusedSimpArgs false
set_option maxRecDepth 100000
set_option maxHeartbeats 8000000
namespace Go.Abs
def qud (e:List CExpr) (id:Int):Nat:=(e.filter fun x=>x.op==0 && x.n==id).length
def qou (rule:Int) (v:CTree) (many:Nat):Bool :=
 if rule=2 then qmF v else if rule=3 then many==0 && qiz v else if rule=8 then qdn v==4
 else if rule=9 then (match v with | .mk vo _ _ _ va=>vo==7 && va.length==1) else if rule=11 then qdn v==2 && many==1 else false
def qym (rule:Int) (cnt:Int→Nat):CTree→Bool
 | .mk op n binds kids alts =>
   if op=4 then qou rule (kids.getD 0 .none) (cnt (binds.getD 0 0))
   else if rule=4∧op=5 then (binds.all fun id=>cnt id==0) || qh4 (.mk op n binds kids alts)
   else if rule=6∧op=8 then kids.length==2 && (qpi (.mk op n binds kids alts)).isSome
   else if rule=7∧op=10 then (qpB (.mk op n binds kids alts)).isSome
   else if rule=5∧op=7 then qdn (kids.getD 0 .none)==6 && (qlL (.mk op n binds kids alts)).isSome
   else if rule=1∧op=3 then qdn (kids.getD 0 .none)==2 && (qia (kids.getD 0 .none)).length==kids.length-1
   else false
def ruleOrder:List Int:=[3,4,6,7,5,1,2,11,8,9]
def qdP (e:List CExpr) (r:Int):Option Nat:=(List.range e.length).find? fun i=>qym r (qud e) (qbp e i)
def qhU (e:List CExpr):Option (Int × Nat):=ruleOrder.findSome? fun r=>(qdP e r).map fun i=>(r,i)
theorem qge {e:List CExpr} {r:Int} {i:Nat} (h:qhU e=some (r,i)):r∈ruleOrder∧i<e.length∧qym r (qud e) (qbp e i)=true:=by
 obtain⟨q,h1,h2⟩:=List.exists_of_findSome?_eq_some h
 cases hf:qdP e q with
 | none=>rw[hf] at h2;cases h2
 | some j =>
   rw[hf] at h2
   cases h2
   unfold qdP at hf
   exact⟨h1,List.mem_range.1 (List.mem_of_find?_eq_some hf),by simpa using List.find?_some hf⟩
theorem qj3 {r:Int} (h:r∈ruleOrder):1≤r∧r≤12∧r≠10∧r≠12:=by
 unfold ruleOrder at h
 simp only[List.mem_cons,List.not_mem_nil,or_false] at h
 omega
def qea:Nat→List CExpr→List CExpr × List (Int × Nat)
 | 0,e=>(e,[])
 | k + 1,e =>
   match qhU e with
   | none=>(e,[])
   | some (r,i)=>if (qbs e r i 0).2=0 then ((qea k (qbs e r i 0).1).1,(r,i)::(qea k (qbs e r i 0).1).2) else (e,[])
def qfC:List (Int × Nat)→List CExpr→Option (List CExpr)
 | [],e=>some e
 | (r,i)::l,e=>if (qbs e r i 0).2=0 then qfC l (qbs e r i 0).1 else none
theorem qlq:∀ (k:Nat) (e:List CExpr),qfC (qea k e).2 e=some (qea k e).1
 | 0,e=>rfl
 | k + 1,e => by
   rw[qea]
   cases h:qhU e with
   | none=>rfl
   | some p =>
     obtain⟨r,i⟩:=p
     dsimp only
     by_cases hz:(qbs e r i 0).2=0
     ·rw[if_pos hz]
      dsimp only
      rw[qfC,if_pos hz]
      exact qlq k _
     ·rw[if_neg hz]
      rfl
theorem qmj:∀ (k:Nat) (e:List CExpr),(qea k e).2.length≤k
 | 0,e=>Nat.le_refl _
 | k + 1,e => by
   rw[qea]
   cases h:qhU e with
   | none=>simp
   | some p =>
     obtain⟨r,i⟩:=p
     dsimp only
     by_cases hz:(qbs e r i 0).2=0
     ·rw[if_pos hz]
      have:=qmj k (qbs e r i 0).1
      simp
      omega
     ·rw[if_neg hz];simp
structure Norm (e:List CExpr):Prop where
 ok:qaL e=0
 fit:∀ x∈e,NodeFit x
 list:qaU (qa0 e)=e
theorem qjZ {e:List CExpr} (hz:qaL e=0) (hf:∀ x∈e,NodeFit x):Norm (qaU (qa0 e)) :=
 ⟨qqr hz,qiZ _ 0 (qef hz hf).1,by rw[qgb]⟩
theorem qhV {e:List CExpr} (h:Norm e) {r:Int} {i:Nat} (hi:i<e.length) (h0:(qbs e r i 0).2=0):Norm (qbs e r i 0).1:=by
 unfold qbs at *
 rw[if_pos h.ok] at h0 ⊢
 by_cases hr:r<1∨12<r
 ·rw[if_pos hr] at h0;exact absurd (show (4:Int)=0 from h0) (by decide)
 rw[if_neg hr,if_neg (by omega),Int.toNat_natCast] at h0 ⊢
 cases hq:qvr r 0 (qbp e i) with
 | none=>rw[hq] at h0;exact absurd (show (12:Int)=0 from h0) (by decide)
 | some t' =>
   rw[hq] at h0
   unfold qlF at h0 ⊢
   dsimp only at h0 ⊢
   by_cases hc:qaL (qaU (qcU e i t' (e.length-1)))=0
   ·rw[if_pos hc]
    have hT:=(qbq h.ok).1
    have hg:=qoD h.ok h.fit i hi
    obtain⟨q1,q2,q3⟩:=qp5 r 0 _ hg hq
    have hfit:=(qtj hT.ahead i hi t' q1 420 (by omega) (fun k hk=>qkh h.ok h.fit k hk)) (e.length-1) (by have:=hT.pos;omega)
    exact⟨hc,qiZ _ 0 hfit.1,by rw[qgb]⟩
   ·rw[if_neg hc] at h0;exact absurd (show (2:Int)=0 from h0) (by decide)
theorem ql6:∀ (k:Nat) {e:List CExpr},Norm e→Norm (qea k e).1
 | 0,e,h=>h
 | k + 1,e,h => by
   rw[qea]
   cases hn:qhU e with
   | none=>exact h
   | some p =>
     obtain⟨r,i⟩:=p
     dsimp only
     by_cases hz:(qbs e r i 0).2=0
     ·rw[if_pos hz]
      exact ql6 k (qhV h (qge hn).2.1 hz)
     ·rw[if_neg hz];exact h
end Go.Abs
