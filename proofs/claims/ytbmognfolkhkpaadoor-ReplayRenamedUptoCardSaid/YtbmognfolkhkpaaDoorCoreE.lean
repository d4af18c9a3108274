/-
  Core expressions: their data, and how they lie on the abstract machine. Conditions: none.
-/
import Derived.Test.YtbmognfolkhkpaaDoorSigE
set_option linter.unusedVariables false
set_option linter.unusedSimpArgs false
namespace Go.Abs
structure CAlt where
 tag:Int
 binds:List Int
structure CExpr where
 op:Int
 n:Int
 binds:List Int
 kids:List Int
 alts:List CAlt
inductive CTree where
 | mk (op n:Int) (binds:List Int) (kids:List CTree) (alts:List CAlt)
def qaP (n:Int):AVal:=.int .i64 n
def qaM (a:CAlt):AVal:=.agg [.int .i64 a.tag,.list (a.binds.map qaP) none]
def qaH (x:CExpr):AVal:=.agg [.int .i64 x.op,.int .i64 x.n,.list (x.binds.map qaP) none,.list (x.kids.map qaP) none,.list (x.alts.map qaM) none]
def qaX:CTree→AVal
 | .mk op n binds kids alts=>.vptr [.int .i64 op,.int .i64 n,.list (binds.map qaP) none,.list (kids.attach.map fun k=>qaX k.1) none,.list (alts.map qaM) none] 0
 termination_by t=>SizeOf.sizeOf t
 decreasing_by
  have:=List.sizeOf_lt_of_mem k.2
  simp only[CTree.mk.sizeOf_spec]
  omega
theorem qc6 (op n:Int) (binds:List Int) (kids:List CTree) (alts:List CAlt):qaX (.mk op n binds kids alts)=.vptr [.int .i64 op,.int .i64 n,.list (binds.map qaP) none,.list (kids.map qaX) none,.list (alts.map qaM) none] 0:=by
 rw[qaX]
 simp
theorem CTree.ind {P:CTree→Prop} (h:∀ op n binds kids alts,(∀ k∈kids,P k)→P (.mk op n binds kids alts)):∀ t,P t:=by
 intro t
 generalize hs:SizeOf.sizeOf t=s
 induction s using Nat.strongRecOn generalizing t with
 | ind s ih =>
   cases t with
   | mk op n binds kids alts =>
     refine h _ _ _ _ _ fun k hk=>ih (SizeOf.sizeOf k) ?_ k rfl
     have:=List.sizeOf_lt_of_mem hk
     rw[← hs]
     simp only[CTree.mk.sizeOf_spec]
     omega
theorem qb0 (n:Int):qaP n=.int .i64 n:=rfl
theorem qbD (a:CAlt):qaM a=.agg [.int .i64 a.tag,.list (a.binds.map qaP) none]:=rfl
theorem qbB (x:CExpr):qaH x=.agg [.int .i64 x.op,.int .i64 x.n,.list (x.binds.map qaP) none,.list (x.kids.map qaP) none,.list (x.alts.map qaM) none]:=rfl
theorem qar (l:List Int):qaZ (l.map qaP)=true:=qfa _ (fun _=>rfl) l
theorem qtx (a:CAlt):qa2 (qaM a)=true:=by simp only[qaM,qa2,qaZ,qar,Bool.and_self]
theorem qaG (l:List CAlt):qaZ (l.map qaM)=true:=qfa _ qtx l
theorem qnf (x:CExpr):qa2 (qaH x)=true:=by simp only[qaH,qa2,qaZ,qar,qaG,Bool.and_self]
theorem qa3 (l:List CExpr):qaZ (l.map qaH)=true:=qfa _ qnf l
theorem qgN (t:CTree):qa2 (qaX t)=true:=by
 induction t using CTree.ind with
 | h op n binds kids alts ih =>
   rw[qc6]
   have hk:qaZ (kids.map qaX)=true:=by
    induction kids with
    | nil=>rfl
    | cons k ks ihk =>
      rw[List.map_cons,qaZ,ih k (by simp),ihk fun x hx=>ih x (by simp[hx])]
      rfl
   simp only[qa2,qaZ,qar,qaG,hk,Bool.and_self]
theorem qcV (l:List CTree):qaZ (l.map qaX)=true:=qfa _ qgN l
theorem qet (l:List Int):((l.map qaP).all fun v=>decide ((acells v).length=1))=true:=qmd _ 1 (fun _=>rfl) l
theorem qes (l:List CAlt):((l.map qaM).all fun v=>decide ((acells v).length=2))=true:=qmd _ 2 (fun _=>rfl) l
theorem qkd (l:List CExpr):((l.map qaH).all fun v=>decide ((acells v).length=5))=true:=qmd _ 5 (fun _=>rfl) l
theorem qrg (l:List CTree):((l.map qaX).all fun v=>decide ((acells v).length=1))=true:=qmd _ 1 (fun t=>by cases t;rw[qc6];rfl) l
theorem qiT (a b:Nat):acells (.vec a b)=[.vec a b]:=rfl
theorem qu1 (a b:Nat):wipe (.vec a b)=.vec a b:=rfl
theorem qov (a b:Nat):wipeCell (.vec a b)=.vec a b:=rfl
theorem qcn (a b:Nat):qa2 (.vec a b)=false:=rfl
theorem qdf (cs:List AVal) (n:Nat):qox (.vec cs n)=cs.flatMap qbW:=rfl
theorem qcQ (ρ:Nat→Option Nat) (cs:List AVal) (n:Nat):qf2 ρ (.vec cs n)=.vec (cs.map (ren ρ)) n:=rfl
theorem qt2 {cs:List AVal} (h:qaZ cs=true):cs.flatMap qbW=[]:=by
 induction cs with
 | nil=>rfl
 | cons v vs ih =>
   simp only[qaZ,Bool.and_eq_true] at h
   have hv:qbW v=[]:=by unfold qbW;exact if_pos h.1
   rw[List.flatMap_cons,ih h.2,hv]
   rfl
theorem quJ (ρ:Nat→Option Nat) {cs:List AVal} (h:qaZ cs=true):cs.map (ren ρ)=cs:=by
 induction cs with
 | nil=>rfl
 | cons v vs ih =>
   simp only[qaZ,Bool.and_eq_true] at h
   have hv:ren ρ v=v:=by unfold ren;exact if_pos h.1
   rw[List.map_cons,ih h.2,hv]
theorem qdg (l:List Int):(l.map qaP).flatMap qbW=[]:=qt2 (qar l)
theorem qcS (ρ:Nat→Option Nat) (l:List Int):(l.map qaP).map (ren ρ)=l.map qaP:=quJ ρ (qar l)
theorem qqu (pure:Nat→Bool) (call:CallT) (k:List Nat) (l:List Step) (ns:List (List Nat)) (s:St):qbJ pure call (.mdraw k l ns) s=qtd k l ns s:=rfl
theorem qyz {α:Type} (f:α→AVal) (l:List α) (k:Nat) (v:α) (h:k<l.length):(l.map f).take k++f v::(l.map f).drop (k+1)=(l.set k v).map f:=by
 rw[List.map_set,List.set_eq_take_append_cons_drop,if_pos (by simpa using h)]
theorem qxN (l:List Int) (k:Nat) (h:k<l.length):(l.map qaP)[k]? = some (.int .i64 (l.getD k 0)):=by
 simp[h,qaP]
theorem qhL (t:CTree):acells (qaX t)=[qaX t]:=by cases t;rw[qc6];rfl
theorem qbE {α:Type} (f:α→AVal) (xs:List α) (hl:xs.length<2 ^ 30) (i:Nat) (hi:i<xs.length) :
  ((i:Int)<xs.length)∧IntKind.i64.wrap ((i:Int)+1)=((i+1:Nat):Int)∧(xs.map f)[i]? = some (f xs[i]) :=
 ⟨by omega,by rw[qd3 (by omega) (by omega)];rfl,by simp[hi]⟩
theorem qbF (n:Nat):¬ ((n:Int)<n):=by omega
end Go.Abs
