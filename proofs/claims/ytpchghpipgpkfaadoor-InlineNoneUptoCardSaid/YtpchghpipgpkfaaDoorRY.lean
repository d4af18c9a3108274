/-
  PARTS OF A PROOF, joined: an abstract machine for quiet code, its evaluation, and what the seat's functions answer on it. Conditions: none.
-/
import Derived.Test.YtpchghpipgpkfaaDoorRP
set_option linter.unusedVariables false
set_option linter.unusedSimpArgs false
set_option maxRecDepth 100000
set_option maxHeartbeats 8000000
namespace Go.Abs
structure Norm (e:List CExpr):Prop where
 ok:qaO e=0
 fit:∀ x∈e,NodeFit x
 list:qa6 (qbr e)=e
theorem qtT {e:List CExpr} (hz:qaO e=0) (hf:∀ x∈e,NodeFit x):Norm (qa6 (qbr e)) :=
 ⟨qhZ hz,qd8 _ 0 (qdQ hz hf).1,by rw[qcK]⟩
theorem qsc {e:List CExpr} (h:Norm e) {r:Int} {i:Nat} (hi:i<e.length) (h0:(qdt e r i 0).2=0):Norm (qdt e r i 0).1:=by
 unfold qdt at *
 rw[if_pos h.ok] at h0 ⊢
 by_cases hr:r<1∨12<r
 ·rw[if_pos hr] at h0;exact absurd (show (4:Int)=0 from h0) (by decide)
 rw[if_neg hr,if_neg (by omega),Int.toNat_natCast] at h0 ⊢
 cases hq:qwd r 0 (qaW e i) with
 | none=>rw[hq] at h0;exact absurd (show (12:Int)=0 from h0) (by decide)
 | some t' =>
   rw[hq] at h0
   unfold qcN at h0 ⊢
   dsimp only at h0 ⊢
   by_cases hc:qaO (qa6 (qct e i t' (e.length-1)))=0
   ·rw[if_pos hc]
    have hT:=(qbc h.ok).1
    have hg:=qgX h.ok h.fit i hi
    obtain⟨q1,q2,q3⟩:=qrn r 0 _ hg hq
    have hfit:=(qm3 hT.ahead i hi t' q1 420 (by omega) (fun k hk=>qfU h.ok h.fit k hk)) (e.length-1) (by have:=hT.pos;omega)
    exact⟨hc,qd8 _ 0 hfit.1,by rw[qcK]⟩
   ·rw[if_neg hc] at h0;exact absurd (show (2:Int)=0 from h0) (by decide)
end Go.Abs
