/-
  Core expressions: their data, and how they lie on the abstract machine. Conditions: none.
-/
import Derived.Test.YtbmognfolkhkpaaDoorSigE
set_option linter.unusedVariables false
set_option linter.unusedSimpArgs false
namespace Go.Abs
structure CAlt where
 tag:Int
 binds:List Int
structure CExpr where
 op:Int
 n:Int
 binds:List Int
 kids:List Int
 alts:List CAlt
inductive CTree where
 | mk (op n:Int) (binds:List Int) (kids:List CTree) (alts:List CAlt)
def qaY (n:Int):AVal:=.int .i64 n
def qaU (a:CAlt):AVal:=.agg [.int .i64 a.tag,.list (a.binds.map qaY) none]
def qaP (x:CExpr):AVal:=.agg [.int .i64 x.op,.int .i64 x.n,.list (x.binds.map qaY) none,.list (x.kids.map qaY) none,.list (x.alts.map qaU) none]
def qaW:CTree→AVal
 | .mk op n binds kids alts=>.vptr [.int .i64 op,.int .i64 n,.list (binds.map qaY) none,.list (kids.attach.map fun k=>qaW k.1) none,.list (alts.map qaU) none] 0
 termination_by t=>SizeOf.sizeOf t
 decreasing_by
  have:=List.sizeOf_lt_of_mem k.2
  simp only[CTree.mk.sizeOf_spec]
  omega
theorem qcB (op n:Int) (binds:List Int) (kids:List CTree) (alts:List CAlt):qaW (.mk op n binds kids alts)=.vptr [.int .i64 op,.int .i64 n,.list (binds.map qaY) none,.list (kids.map qaW) none,.list (alts.map qaU) none] 0:=by
 rw[qaW]
 simp
theorem CTree.ind {P:CTree→Prop} (h:∀ op n binds kids alts,(∀ k∈kids,P k)→P (.mk op n binds kids alts)):∀ t,P t:=by
 intro t
 generalize hs:SizeOf.sizeOf t=s
 induction s using Nat.strongRecOn generalizing t with
 | ind s ih =>
   cases t with
   | mk op n binds kids alts =>
     refine h _ _ _ _ _ fun k hk=>ih (SizeOf.sizeOf k) ?_ k rfl
     have:=List.sizeOf_lt_of_mem hk
     rw[← hs]
     simp only[CTree.mk.sizeOf_spec]
     omega
theorem qb1 (n:Int):qaY n=.int .i64 n:=rfl
theorem qbI (a:CAlt):qaU a=.agg [.int .i64 a.tag,.list (a.binds.map qaY) none]:=rfl
theorem qbF (x:CExpr):qaP x=.agg [.int .i64 x.op,.int .i64 x.n,.list (x.binds.map qaY) none,.list (x.kids.map qaY) none,.list (x.alts.map qaU) none]:=rfl
theorem qay (l:List Int):qa4 (l.map qaY)=true:=qe5 _ (fun _=>rfl) l
theorem qt7 (a:CAlt):qbd (qaU a)=true:=by simp only[qaU,qbd,qa4,qay,Bool.and_self]
theorem qaO (l:List CAlt):qa4 (l.map qaU)=true:=qe5 _ qt7 l
theorem qnI (x:CExpr):qbd (qaP x)=true:=by simp only[qaP,qbd,qa4,qay,qaO,Bool.and_self]
theorem qbg (l:List CExpr):qa4 (l.map qaP)=true:=qe5 _ qnI l
theorem qd2 (t:CTree):qbd (qaW t)=true:=by
 induction t using CTree.ind with
 | h op n binds kids alts ih =>
   rw[qcB]
   have hk:qa4 (kids.map qaW)=true:=by
    induction kids with
    | nil=>rfl
    | cons k ks ihk =>
      rw[List.map_cons,qa4,ih k (by simp),ihk fun x hx=>ih x (by simp[hx])]
      rfl
   simp only[qbd,qa4,qay,qaO,hk,Bool.and_self]
theorem qcr (l:List CTree):qa4 (l.map qaW)=true:=qe5 _ qd2 l
theorem qdM (l:List Int):((l.map qaY).all fun v=>decide ((acells v).length=1))=true:=qmA _ 1 (fun _=>rfl) l
theorem qet (l:List CAlt):((l.map qaU).all fun v=>decide ((acells v).length=2))=true:=qmA _ 2 (fun _=>rfl) l
theorem qkn (l:List CExpr):((l.map qaP).all fun v=>decide ((acells v).length=5))=true:=qmA _ 5 (fun _=>rfl) l
theorem qny (l:List CTree):((l.map qaW).all fun v=>decide ((acells v).length=1))=true:=qmA _ 1 (fun t=>by cases t;rw[qcB];rfl) l
theorem qiZ (a b:Nat):acells (.vec a b)=[.vec a b]:=rfl
theorem qvn (a b:Nat):wipe (.vec a b)=.vec a b:=rfl
theorem qo1 (a b:Nat):wipeCell (.vec a b)=.vec a b:=rfl
theorem qcs (a b:Nat):qbd (.vec a b)=false:=rfl
theorem qdj (cs:List AVal) (n:Nat):qo2 (.vec cs n)=cs.flatMap qbU:=rfl
theorem qcU (ρ:Nat→Option Nat) (cs:List AVal) (n:Nat):qfN ρ (.vec cs n)=.vec (cs.map (ren ρ)) n:=rfl
theorem quw {cs:List AVal} (h:qa4 cs=true):cs.flatMap qbU=[]:=by
 induction cs with
 | nil=>rfl
 | cons v vs ih =>
   simp only[qa4,Bool.and_eq_true] at h
   have hv:qbU v=[]:=by unfold qbU;exact if_pos h.1
   rw[List.flatMap_cons,ih h.2,hv]
   rfl
theorem qu9 (ρ:Nat→Option Nat) {cs:List AVal} (h:qa4 cs=true):cs.map (ren ρ)=cs:=by
 induction cs with
 | nil=>rfl
 | cons v vs ih =>
   simp only[qa4,Bool.and_eq_true] at h
   have hv:ren ρ v=v:=by unfold ren;exact if_pos h.1
   rw[List.map_cons,ih h.2,hv]
theorem qdk (l:List Int):(l.map qaY).flatMap qbU=[]:=quw (qay l)
theorem qcX (ρ:Nat→Option Nat) (l:List Int):(l.map qaY).map (ren ρ)=l.map qaY:=qu9 ρ (qay l)
theorem qq0 (pure:Nat→Bool) (call:CallT) (k:List Nat) (l:List Step) (ns:List (List Nat)) (s:St):qbL pure call (.mdraw k l ns) s=qtK k l ns s:=rfl
theorem qyY {α:Type} (f:α→AVal) (l:List α) (k:Nat) (v:α) (h:k<l.length):(l.map f).take k++f v::(l.map f).drop (k+1)=(l.set k v).map f:=by
 rw[List.map_set,List.set_eq_take_append_cons_drop,if_pos (by simpa using h)]
theorem qya (l:List Int) (k:Nat) (h:k<l.length):(l.map qaY)[k]? = some (.int .i64 (l.getD k 0)):=by
 simp[h,qaY]
theorem qhL (t:CTree):acells (qaW t)=[qaW t]:=by cases t;rw[qcB];rfl
theorem qbz {α:Type} (f:α→AVal) (xs:List α) (hl:xs.length<2 ^ 30) (i:Nat) (hi:i<xs.length) :
  ((i:Int)<xs.length)∧IntKind.i64.wrap ((i:Int)+1)=((i+1:Nat):Int)∧(xs.map f)[i]? = some (f xs[i]) :=
 ⟨by omega,by rw[qc5 (by omega) (by omega)];rfl,by simp[hi]⟩
theorem qbA (n:Nat):¬ ((n:Int)<n):=by omega
end Go.Abs
