/-
  PARTS OF A PROOF, joined: an abstract machine for quiet code, its evaluation, and what the seat's functions answer on it. Conditions: none.
-/
import Derived.Test.YtpchghpipgpkfaaDoorRP
set_option linter.unusedVariables false
set_option linter.unusedSimpArgs false
set_option maxRecDepth 100000
set_option maxHeartbeats 8000000
namespace Go.Abs
def qt2 (e:List CExpr) (id:Int):Nat:=(e.filter fun x=>x.op==0 && x.n==id).length
def qol (rule:Int) (v:CTree) (many:Nat):Bool :=
 if rule=2 then qmv v else if rule=3 then many==0 && qil v else if rule=8 then qdd v==4
 else if rule=9 then (match v with | .mk vo _ _ _ va=>vo==7 && va.length==1) else if rule=11 then qdd v==2 && many==1 else false
def qx9 (rule:Int) (cnt:Int→Nat):CTree→Bool
 | .mk op n binds kids alts =>
   if op=4 then qol rule (kids.getD 0 .none) (cnt (binds.getD 0 0))
   else if rule=4∧op=5 then (binds.all fun id=>cnt id==0) || qhQ (.mk op n binds kids alts)
   else if rule=6∧op=8 then kids.length==2 && (qpb (.mk op n binds kids alts)).isSome
   else if rule=7∧op=10 then (qpu (.mk op n binds kids alts)).isSome
   else if rule=5∧op=7 then qdd (kids.getD 0 .none)==6 && (qlC (.mk op n binds kids alts)).isSome
   else if rule=1∧op=3 then qdd (kids.getD 0 .none)==2 && (qhW (kids.getD 0 .none)).length==kids.length-1
   else false
def ruleOrder:List Int:=[3,4,6,7,5,1,2,11,8,9]
def qdD (e:List CExpr) (r:Int):Option Nat:=(List.range e.length).find? fun i=>qx9 r (qt2 e) (qbm e i)
def qhh (e:List CExpr):Option (Int × Nat):=ruleOrder.findSome? fun r=>(qdD e r).map fun i=>(r,i)
theorem qf2 {e:List CExpr} {r:Int} {i:Nat} (h:qhh e=some (r,i)):r∈ruleOrder∧i<e.length∧qx9 r (qt2 e) (qbm e i)=true:=by
 obtain⟨q,h1,h2⟩:=List.exists_of_findSome?_eq_some h
 cases hf:qdD e q with
 | none=>rw[hf] at h2;cases h2
 | some j =>
   rw[hf] at h2
   cases h2
   unfold qdD at hf
   exact⟨h1,List.mem_range.1 (List.mem_of_find?_eq_some hf),by simpa using List.find?_some hf⟩
theorem qjO {r:Int} (h:r∈ruleOrder):1≤r∧r≤12∧r≠10∧r≠12:=by
 unfold ruleOrder at h
 simp only[List.mem_cons,List.not_mem_nil,or_false] at h
 omega
def qcN:Nat→List CExpr→List CExpr × List (Int × Nat)
 | 0,e=>(e,[])
 | k + 1,e =>
   match qhh e with
   | none=>(e,[])
   | some (r,i)=>if (qbq e r i 0).2=0 then ((qcN k (qbq e r i 0).1).1,(r,i)::(qcN k (qbq e r i 0).1).2) else (e,[])
def qfr:List (Int × Nat)→List CExpr→Option (List CExpr)
 | [],e=>some e
 | (r,i)::l,e=>if (qbq e r i 0).2=0 then qfr l (qbq e r i 0).1 else none
theorem qlf:∀ (k:Nat) (e:List CExpr),qfr (qcN k e).2 e=some (qcN k e).1
 | 0,e=>rfl
 | k + 1,e => by
   rw[qcN]
   cases h:qhh e with
   | none=>rfl
   | some p =>
     obtain⟨r,i⟩:=p
     dsimp only
     by_cases hz:(qbq e r i 0).2=0
     ·rw[if_pos hz]
      dsimp only
      rw[qfr,if_pos hz]
      exact qlf k _
     ·rw[if_neg hz]
      rfl
theorem qiO:∀ (k:Nat) (e:List CExpr),(qcN k e).2.length≤k
 | 0,e=>Nat.le_refl _
 | k + 1,e => by
   rw[qcN]
   cases h:qhh e with
   | none=>simp
   | some p =>
     obtain⟨r,i⟩:=p
     dsimp only
     by_cases hz:(qbq e r i 0).2=0
     ·rw[if_pos hz]
      have:=qiO k (qbq e r i 0).1
      simp
      omega
     ·rw[if_neg hz];simp
theorem qpZ:∀ (a b:Nat) (e:List CExpr),qcN (a+b) e=((qcN b (qcN a e).1).1,(qcN a e).2++(qcN b (qcN a e).1).2)
 | 0,b,e=>by rw[Nat.zero_add];rfl
 | a + 1,b,e => by
   rw[show a+1+b=(a+b)+1 by omega,qcN,qcN]
   cases h:qhh e with
   | none =>
     dsimp only
     have:qcN b e=(e,[]):=by
      cases b with
      | zero=>rfl
      | succ b=>rw[qcN,h]
     rw[this]
     rfl
   | some p =>
     obtain⟨r,i⟩:=p
     dsimp only
     by_cases hz:(qbq e r i 0).2=0
     ·rw[if_pos hz,if_pos hz,qpZ a b]
      rfl
     ·rw[if_neg hz,if_neg hz]
      dsimp only
      have:qcN b e=(e,[]):=by
       cases b with
       | zero=>rfl
       | succ b=>rw[qcN,h];dsimp only;rw[if_neg hz]
      rw[this]
      rfl
structure Norm (e:List CExpr):Prop where
 ok:qaJ e=0
 fit:∀ x∈e,NodeFit x
 list:qaQ (qaY e)=e
theorem qjK {e:List CExpr} (hz:qaJ e=0) (hf:∀ x∈e,NodeFit x):Norm (qaQ (qaY e)) :=
 ⟨qql hz,qiL _ 0 (qd5 hz hf).1,by rw[qfZ]⟩
theorem qhG {e:List CExpr} (h:Norm e) {r:Int} {i:Nat} (hi:i<e.length) (h0:(qbq e r i 0).2=0):Norm (qbq e r i 0).1:=by
 unfold qbq at *
 rw[if_pos h.ok] at h0 ⊢
 by_cases hr:r<1∨12<r
 ·rw[if_pos hr] at h0;exact absurd (show (4:Int)=0 from h0) (by decide)
 rw[if_neg hr,if_neg (by omega),Int.toNat_natCast] at h0 ⊢
 cases hq:qvd r 0 (qbm e i) with
 | none=>rw[hq] at h0;exact absurd (show (12:Int)=0 from h0) (by decide)
 | some t' =>
   rw[hq] at h0
   unfold qlw at h0 ⊢
   dsimp only at h0 ⊢
   by_cases hc:qaJ (qaQ (qcQ e i t' (e.length-1)))=0
   ·rw[if_pos hc]
    have hT:=(qbo h.ok).1
    have hg:=qov h.ok h.fit i hi
    obtain⟨q1,q2,q3⟩:=qpY r 0 _ hg hq
    have hfit:=(qs8 hT.ahead i hi t' q1 420 (by omega) (fun k hk=>qj3 h.ok h.fit k hk)) (e.length-1) (by have:=hT.pos;omega)
    exact⟨hc,qiL _ 0 hfit.1,by rw[qfZ]⟩
   ·rw[if_neg hc] at h0;exact absurd (show (2:Int)=0 from h0) (by decide)
theorem qlX:∀ (k:Nat) {e:List CExpr},Norm e→Norm (qcN k e).1
 | 0,e,h=>h
 | k + 1,e,h => by
   rw[qcN]
   cases hn:qhh e with
   | none=>exact h
   | some p =>
     obtain⟨r,i⟩:=p
     dsimp only
     by_cases hz:(qbq e r i 0).2=0
     ·rw[if_pos hz]
      exact qlX k (qhG h (qf2 hn).2.1 hz)
     ·rw[if_neg hz];exact h
end Go.Abs
