/-
  Types, signatures and functors as plain data, and as abstract values. Conditions: none.
-/
import Derived.Test.YtpchghpipgpkfaaDoorAbsQ
set_option linter.unusedVariables false
namespace Go.Abs
inductive Ty where
 | mk (kind:Int) (name:ByteArray) (var:Int) (args:List Ty)
def Ty.kind:Ty→Int | .mk k _ _ _=>k
def Ty.name:Ty→ByteArray | .mk _ n _ _=>n
def Ty.var:Ty→Int | .mk _ _ v _=>v
def Ty.args:Ty→List Ty | .mk _ _ _ as=>as
theorem Ty.mem_size {t:Ty} {as:List Ty} (h:t∈as):SizeOf.sizeOf t<SizeOf.sizeOf as:=List.sizeOf_lt_of_mem h
theorem Ty.ind {P:Ty→Prop} (h:∀ k n v as,(∀ a∈as,P a)→P (.mk k n v as)):∀ t,P t
 | .mk k n v as=>h k n v as fun a ha=>Ty.ind h a
 termination_by t=>SizeOf.sizeOf t
 decreasing_by
  have:=Ty.mem_size ha
  simp only[Ty.mk.sizeOf_spec]
  omega
structure Plain (L:Lib):Prop where
 pure:∀ f,L.pure f=true
 summ:∀ f,L.fns f≠none→L.summ f=none
def qpn:Option (ARes × Heap)→Option ARes
 | some (.val v,_)=>some (.val (wipeR v))
 | some (.panic v,_)=>some (.panic (wipeR v))
 | none=>none
theorem qak (v:AVal) (h:Heap):qpn (some (.val v,h))=some (.val (wipeR v)):=rfl
theorem qaX {L:Lib} (hL:Plain L) {f:Nat} {fn:AFn} {args:List AVal} {v:AVal} (hf:L.fns f=some fn) (hd:qaH v=true)
  (hr:qpn (qan fn.results (qa0 L.pure (call L) fn.body ⟨qew args,[]⟩))=some (.val v)) (h:Heap):pcall L f args h=some (.val v,h):=by
 unfold qpn at hr
 split at hr
 ·rename_i v' h' he
  injection hr with hr
  injection hr with hr
  subst hr
  exact qxX h' (hL.summ f (by rw[hf];exact fun hx=>by cases hx)) hf he hd h
 ·injection hr with hr
  cases hr
 ·cases hr
end Go.Abs
