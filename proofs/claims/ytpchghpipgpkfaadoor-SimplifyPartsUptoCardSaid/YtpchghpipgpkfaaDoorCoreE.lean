/-
  Core expressions: their data, and how they lie on the abstract machine. Conditions: none.
-/
import Derived.Test.YtpchghpipgpkfaaDoorSigE
set_option linter.unusedVariables false
set_option linter.unusedSimpArgs false
namespace Go.Abs
structure CAlt where
 tag:Int
 binds:List Int
structure CExpr where
 op:Int
 n:Int
 binds:List Int
 kids:List Int
 alts:List CAlt
inductive CTree where
 | mk (op n:Int) (binds:List Int) (kids:List CTree) (alts:List CAlt)
def qaw (n:Int):AVal:=.int .i64 n
def qax (a:CAlt):AVal:=.agg [.int .i64 a.tag,.list (a.binds.map qaw) none]
def qal (x:CExpr):AVal:=.agg [.int .i64 x.op,.int .i64 x.n,.list (x.binds.map qaw) none,.list (x.kids.map qaw) none,.list (x.alts.map qax) none]
def qaB:CTree→AVal
 | .mk op n binds kids alts=>.vptr [.int .i64 op,.int .i64 n,.list (binds.map qaw) none,.list (kids.attach.map fun k=>qaB k.1) none,.list (alts.map qax) none] 0
 termination_by t=>SizeOf.sizeOf t
 decreasing_by
  have:=List.sizeOf_lt_of_mem k.2
  simp only[CTree.mk.sizeOf_spec]
  omega
theorem qbt (op n:Int) (binds:List Int) (kids:List CTree) (alts:List CAlt):qaB (.mk op n binds kids alts)=.vptr [.int .i64 op,.int .i64 n,.list (binds.map qaw) none,.list (kids.map qaB) none,.list (alts.map qax) none] 0:=by
 rw[qaB]
 simp
theorem CTree.ind {P:CTree→Prop} (h:∀ op n binds kids alts,(∀ k∈kids,P k)→P (.mk op n binds kids alts)):∀ t,P t:=by
 intro t
 generalize hs:SizeOf.sizeOf t=s
 induction s using Nat.strongRecOn generalizing t with
 | ind s ih =>
   cases t with
   | mk op n binds kids alts =>
     refine h _ _ _ _ _ fun k hk=>ih (SizeOf.sizeOf k) ?_ k rfl
     have:=List.sizeOf_lt_of_mem hk
     rw[← hs]
     simp only[CTree.mk.sizeOf_spec]
     omega
theorem qbg (n:Int):qaw n=.int .i64 n:=rfl
theorem qaU (a:CAlt):qax a=.agg [.int .i64 a.tag,.list (a.binds.map qaw) none]:=rfl
theorem qaS (x:CExpr):qal x=.agg [.int .i64 x.op,.int .i64 x.n,.list (x.binds.map qaw) none,.list (x.kids.map qaw) none,.list (x.alts.map qax) none]:=rfl
theorem qai (l:List Int):qas (l.map qaw)=true:=qdB _ (fun _=>rfl) l
theorem qtM (a:CAlt):qay (qax a)=true:=by simp only[qax,qay,qas,qai,Bool.and_self]
theorem qao (l:List CAlt):qas (l.map qax)=true:=qdB _ qtM l
theorem qmr (x:CExpr):qay (qal x)=true:=by simp only[qal,qay,qas,qai,qao,Bool.and_self]
theorem qaJ (l:List CExpr):qas (l.map qal)=true:=qdB _ qmr l
theorem qb8 (t:CTree):qay (qaB t)=true:=by
 induction t using CTree.ind with
 | h op n binds kids alts ih =>
   rw[qbt]
   have hk:qas (kids.map qaB)=true:=by
    induction kids with
    | nil=>rfl
    | cons k ks ihk =>
      rw[List.map_cons,qas,ih k (by simp),ihk fun x hx=>ih x (by simp[hx])]
      rfl
   simp only[qay,qas,qai,qao,hk,Bool.and_self]
theorem qbU (l:List CTree):qas (l.map qaB)=true:=qdB _ qb8 l
theorem qej (l:List Int):((l.map qaw).all fun v=>decide ((acells v).length=1))=true:=all_map _ 1 (fun _=>rfl) l
theorem qcY (l:List CAlt):((l.map qax).all fun v=>decide ((acells v).length=2))=true:=all_map _ 2 (fun _=>rfl) l
theorem qq3 (l:List CExpr):((l.map qal).all fun v=>decide ((acells v).length=5))=true:=all_map _ 5 (fun _=>rfl) l
theorem qmg (l:List CTree):((l.map qaB).all fun v=>decide ((acells v).length=1))=true:=all_map _ 1 (fun t=>by cases t;rw[qbt];rfl) l
theorem qhi (a b:Nat):acells (.vec a b)=[.vec a b]:=rfl
theorem qvd (a b:Nat):wipe (.vec a b)=.vec a b:=rfl
theorem qnK (a b:Nat):wipeCell (.vec a b)=.vec a b:=rfl
theorem qbm (a b:Nat):qay (.vec a b)=false:=rfl
theorem qb3 (cs:List AVal) (n:Nat):qnL (.vec cs n)=cs.flatMap qa3:=rfl
theorem qbH (ρ:Nat→Option Nat) (cs:List AVal) (n:Nat):qeh ρ (.vec cs n)=.vec (cs.map (ren ρ)) n:=rfl
theorem qug {cs:List AVal} (h:qas cs=true):cs.flatMap qa3=[]:=by
 induction cs with
 | nil=>rfl
 | cons v vs ih =>
   simp only[qas,Bool.and_eq_true] at h
   have hv:qa3 v=[]:=by unfold qa3;exact if_pos h.1
   rw[List.flatMap_cons,ih h.2,hv]
   rfl
theorem quR (ρ:Nat→Option Nat) {cs:List AVal} (h:qas cs=true):cs.map (ren ρ)=cs:=by
 induction cs with
 | nil=>rfl
 | cons v vs ih =>
   simp only[qas,Bool.and_eq_true] at h
   have hv:ren ρ v=v:=by unfold ren;exact if_pos h.1
   rw[List.map_cons,ih h.2,hv]
theorem qb4 (l:List Int):(l.map qaw).flatMap qa3=[]:=qug (qai l)
theorem qbL (ρ:Nat→Option Nat) (l:List Int):(l.map qaw).map (ren ρ)=l.map qaw:=quR ρ (qai l)
theorem qp6 (pure:Nat→Bool) (call:CallT) (k:List Nat) (l:List Step) (ns:List (List Nat)) (s:St):qaT pure call (.mdraw k l ns) s=qtq k l ns s:=rfl
theorem qy6 {α:Type} (f:α→AVal) (l:List α) (k:Nat) (v:α) (h:k<l.length):(l.map f).take k++f v::(l.map f).drop (k+1)=(l.set k v).map f:=by
 rw[List.map_set,List.set_eq_take_append_cons_drop,if_pos (by simpa using h)]
theorem qx9 (l:List Int) (k:Nat) (h:k<l.length):(l.map qaw)[k]? = some (.int .i64 (l.getD k 0)):=by
 simp[h,qaw]
theorem qgb (t:CTree):acells (qaB t)=[qaB t]:=by cases t;rw[qbt];rfl
theorem qaN {α:Type} (f:α→AVal) (xs:List α) (hl:xs.length<2 ^ 30) (i:Nat) (hi:i<xs.length) :
  ((i:Int)<xs.length)∧IntKind.i64.wrap ((i:Int)+1)=((i+1:Nat):Int)∧(xs.map f)[i]? = some (f xs[i]) :=
 ⟨by omega,by rw[qbN (by omega) (by omega)];rfl,by simp[hi]⟩
theorem qaO (n:Nat):¬ ((n:Int)<n):=by omega
end Go.Abs
