/-
  Core expressions: their data, and how they lie on the abstract machine. Conditions: none.
-/
import Derived.Test.YtjbgooldkkbdmaaDoorSigE
set_option linter.unusedVariables false
set_option linter.unusedSimpArgs false
namespace Go.Abs
structure CAlt where
 tag:Int
 binds:List Int
structure CExpr where
 op:Int
 n:Int
 binds:List Int
 kids:List Int
 alts:List CAlt
inductive CTree where
 | mk (op n:Int) (binds:List Int) (kids:List CTree) (alts:List CAlt)
def qau (n:Int):AVal:=.int .i64 n
def qan (a:CAlt):AVal:=.agg [.int .i64 a.tag,.list (a.binds.map qau) none]
def qal (x:CExpr):AVal:=.agg [.int .i64 x.op,.int .i64 x.n,.list (x.binds.map qau) none,.list (x.kids.map qau) none,.list (x.alts.map qan) none]
def qaB:CTree→AVal
 | .mk op n binds kids alts=>.vptr [.int .i64 op,.int .i64 n,.list (binds.map qau) none,.list (kids.attach.map fun k=>qaB k.1) none,.list (alts.map qan) none] 0
 termination_by t=>SizeOf.sizeOf t
 decreasing_by
  have:=List.sizeOf_lt_of_mem k.2
  simp only[CTree.mk.sizeOf_spec]
  omega
theorem qbG (op n:Int) (binds:List Int) (kids:List CTree) (alts:List CAlt):qaB (.mk op n binds kids alts)=.vptr [.int .i64 op,.int .i64 n,.list (binds.map qau) none,.list (kids.map qaB) none,.list (alts.map qan) none] 0:=by
 rw[qaB]
 simp
theorem CTree.ind {P:CTree→Prop} (h:∀ op n binds kids alts,(∀ k∈kids,P k)→P (.mk op n binds kids alts)):∀ t,P t:=by
 intro t
 generalize hs:SizeOf.sizeOf t=s
 induction s using Nat.strongRecOn generalizing t with
 | ind s ih =>
   cases t with
   | mk op n binds kids alts =>
     refine h _ _ _ _ _ fun k hk=>ih (SizeOf.sizeOf k) ?_ k rfl
     have:=List.sizeOf_lt_of_mem hk
     rw[← hs]
     simp only[CTree.mk.sizeOf_spec]
     omega
theorem qba (n:Int):qau n=.int .i64 n:=rfl
theorem qaJ (a:CAlt):qan a=.agg [.int .i64 a.tag,.list (a.binds.map qau) none]:=rfl
theorem qaZ (x:CExpr):qal x=.agg [.int .i64 x.op,.int .i64 x.n,.list (x.binds.map qau) none,.list (x.kids.map qau) none,.list (x.alts.map qan) none]:=rfl
theorem qac (l:List Int):qao (l.map qau)=true:=qeT _ (fun _=>rfl) l
theorem qts (a:CAlt):qar (qan a)=true:=by simp only[qan,qar,qao,qac,Bool.and_self]
theorem qah (l:List CAlt):qao (l.map qan)=true:=qeT _ qts l
theorem qma (x:CExpr):qar (qal x)=true:=by simp only[qal,qar,qao,qac,qah,Bool.and_self]
theorem qaY (l:List CExpr):qao (l.map qal)=true:=qeT _ qma l
theorem qei (t:CTree):qar (qaB t)=true:=by
 induction t using CTree.ind with
 | h op n binds kids alts ih =>
   rw[qbG]
   have hk:qao (kids.map qaB)=true:=by
    induction kids with
    | nil=>rfl
    | cons k ks ihk =>
      rw[List.map_cons,qao,ih k (by simp),ihk fun x hx=>ih x (by simp[hx])]
      rfl
   simp only[qar,qao,qac,qah,hk,Bool.and_self]
theorem qej (l:List CTree):qao (l.map qaB)=true:=qeT _ qei l
theorem qdZ (l:List Int):((l.map qau).all fun v=>decide ((acells v).length=1))=true:=all_map _ 1 (fun _=>rfl) l
theorem qdg (l:List CAlt):((l.map qan).all fun v=>decide ((acells v).length=2))=true:=all_map _ 2 (fun _=>rfl) l
theorem qqJ (l:List CExpr):((l.map qal).all fun v=>decide ((acells v).length=5))=true:=all_map _ 5 (fun _=>rfl) l
theorem qqK (l:List CTree):((l.map qaB).all fun v=>decide ((acells v).length=1))=true:=all_map _ 1 (fun t=>by cases t;rw[qbG];rfl) l
theorem qhg (a b:Nat):acells (.vec a b)=[.vec a b]:=rfl
theorem quR (a b:Nat):wipe (.vec a b)=.vec a b:=rfl
theorem qnr (a b:Nat):wipeCell (.vec a b)=.vec a b:=rfl
theorem qbm (a b:Nat):qar (.vec a b)=false:=rfl
theorem qcf (cs:List AVal) (n:Nat):qjW (.vec cs n)=cs.flatMap qa0:=rfl
theorem qbM (ρ:Nat→Option Nat) (cs:List AVal) (n:Nat):qeb ρ (.vec cs n)=.vec (cs.map (ren ρ)) n:=rfl
theorem qtS {cs:List AVal} (h:qao cs=true):cs.flatMap qa0=[]:=by
 induction cs with
 | nil=>rfl
 | cons v vs ih =>
   simp only[qao,Bool.and_eq_true] at h
   have hv:qa0 v=[]:=by unfold qa0;exact if_pos h.1
   rw[List.flatMap_cons,ih h.2,hv]
   rfl
theorem quu (ρ:Nat→Option Nat) {cs:List AVal} (h:qao cs=true):cs.map (ren ρ)=cs:=by
 induction cs with
 | nil=>rfl
 | cons v vs ih =>
   simp only[qao,Bool.and_eq_true] at h
   have hv:ren ρ v=v:=by unfold ren;exact if_pos h.1
   rw[List.map_cons,ih h.2,hv]
theorem qcg (l:List Int):(l.map qau).flatMap qa0=[]:=qtS (qac l)
theorem qbT (ρ:Nat→Option Nat) (l:List Int):(l.map qau).map (ren ρ)=l.map qau:=quu ρ (qac l)
theorem qpK (pure:Nat→Bool) (call:CallT) (k:List Nat) (l:List Step) (ns:List (List Nat)) (s:St):qaM pure call (.mdraw k l ns) s=qs5 k l ns s:=rfl
theorem qyg {α:Type} (f:α→AVal) (l:List α) (k:Nat) (v:α) (h:k<l.length):(l.map f).take k++f v::(l.map f).drop (k+1)=(l.set k v).map f:=by
 rw[List.map_set,List.set_eq_take_append_cons_drop,if_pos (by simpa using h)]
theorem qxi (l:List Int) (k:Nat) (h:k<l.length):(l.map qau)[k]? = some (.int .i64 (l.getD k 0)):=by
 simp[h,qau]
theorem qgh (t:CTree):acells (qaB t)=[qaB t]:=by cases t;rw[qbG];rfl
theorem qaT {α:Type} (f:α→AVal) (xs:List α) (hl:xs.length<2 ^ 30) (i:Nat) (hi:i<xs.length) :
  ((i:Int)<xs.length)∧IntKind.i64.wrap ((i:Int)+1)=((i+1:Nat):Int)∧(xs.map f)[i]? = some (f xs[i]) :=
 ⟨by omega,by rw[qcT (by omega) (by omega)];rfl,by simp[hi]⟩
theorem qaU (n:Nat):¬ ((n:Int)<n):=by omega
end Go.Abs
