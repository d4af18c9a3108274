/-
  Core expressions: their data, and how they lie on the abstract machine. Conditions: none.
-/
import Derived.Test.YtpchghpipgpkfaaDoorSigE
set_option linter.unusedVariables false
set_option linter.unusedSimpArgs false
namespace Go.Abs
structure CAlt where
 tag:Int
 binds:List Int
structure CExpr where
 op:Int
 n:Int
 binds:List Int
 kids:List Int
 alts:List CAlt
inductive CTree where
 | mk (op n:Int) (binds:List Int) (kids:List CTree) (alts:List CAlt)
def qav (n:Int):AVal:=.int .i64 n
def qau (a:CAlt):AVal:=.agg [.int .i64 a.tag,.list (a.binds.map qav) none]
def qam (x:CExpr):AVal:=.agg [.int .i64 x.op,.int .i64 x.n,.list (x.binds.map qav) none,.list (x.kids.map qav) none,.list (x.alts.map qau) none]
def qaC:CTree→AVal
 | .mk op n binds kids alts=>.vptr [.int .i64 op,.int .i64 n,.list (binds.map qav) none,.list (kids.attach.map fun k=>qaC k.1) none,.list (alts.map qau) none] 0
 termination_by t=>SizeOf.sizeOf t
 decreasing_by
  have:=List.sizeOf_lt_of_mem k.2
  simp only[CTree.mk.sizeOf_spec]
  omega
theorem qbs (op n:Int) (binds:List Int) (kids:List CTree) (alts:List CAlt):qaC (.mk op n binds kids alts)=.vptr [.int .i64 op,.int .i64 n,.list (binds.map qav) none,.list (kids.map qaC) none,.list (alts.map qau) none] 0:=by
 rw[qaC]
 simp
theorem CTree.ind {P:CTree→Prop} (h:∀ op n binds kids alts,(∀ k∈kids,P k)→P (.mk op n binds kids alts)):∀ t,P t:=by
 intro t
 generalize hs:SizeOf.sizeOf t=s
 induction s using Nat.strongRecOn generalizing t with
 | ind s ih =>
   cases t with
   | mk op n binds kids alts =>
     refine h _ _ _ _ _ fun k hk=>ih (SizeOf.sizeOf k) ?_ k rfl
     have:=List.sizeOf_lt_of_mem hk
     rw[← hs]
     simp only[CTree.mk.sizeOf_spec]
     omega
theorem qbh (n:Int):qav n=.int .i64 n:=rfl
theorem qaT (a:CAlt):qau a=.agg [.int .i64 a.tag,.list (a.binds.map qav) none]:=rfl
theorem qaS (x:CExpr):qam x=.agg [.int .i64 x.op,.int .i64 x.n,.list (x.binds.map qav) none,.list (x.kids.map qav) none,.list (x.alts.map qau) none]:=rfl
theorem qaj (l:List Int):qas (l.map qav)=true:=qdG _ (fun _=>rfl) l
theorem qtT (a:CAlt):qay (qau a)=true:=by simp only[qau,qay,qas,qaj,Bool.and_self]
theorem qao (l:List CAlt):qas (l.map qau)=true:=qdG _ qtT l
theorem qmv (x:CExpr):qay (qam x)=true:=by simp only[qam,qay,qas,qaj,qao,Bool.and_self]
theorem qaL (l:List CExpr):qas (l.map qam)=true:=qdG _ qmv l
theorem qb9 (t:CTree):qay (qaC t)=true:=by
 induction t using CTree.ind with
 | h op n binds kids alts ih =>
   rw[qbs]
   have hk:qas (kids.map qaC)=true:=by
    induction kids with
    | nil=>rfl
    | cons k ks ihk =>
      rw[List.map_cons,qas,ih k (by simp),ihk fun x hx=>ih x (by simp[hx])]
      rfl
   simp only[qay,qas,qaj,qao,hk,Bool.and_self]
theorem qbX (l:List CTree):qas (l.map qaC)=true:=qdG _ qb9 l
theorem qeq (l:List Int):((l.map qav).all fun v=>decide ((acells v).length=1))=true:=all_map _ 1 (fun _=>rfl) l
theorem qc2 (l:List CAlt):((l.map qau).all fun v=>decide ((acells v).length=2))=true:=all_map _ 2 (fun _=>rfl) l
theorem qq7 (l:List CExpr):((l.map qam).all fun v=>decide ((acells v).length=5))=true:=all_map _ 5 (fun _=>rfl) l
theorem qmk (l:List CTree):((l.map qaC).all fun v=>decide ((acells v).length=1))=true:=all_map _ 1 (fun t=>by cases t;rw[qbs];rfl) l
theorem qho (a b:Nat):acells (.vec a b)=[.vec a b]:=rfl
theorem qvm (a b:Nat):wipe (.vec a b)=.vec a b:=rfl
theorem qnQ (a b:Nat):wipeCell (.vec a b)=.vec a b:=rfl
theorem qbm (a b:Nat):qay (.vec a b)=false:=rfl
theorem qb2 (cs:List AVal) (n:Nat):qnR (.vec cs n)=cs.flatMap qa8:=rfl
theorem qbI (ρ:Nat→Option Nat) (cs:List AVal) (n:Nat):qeo ρ (.vec cs n)=.vec (cs.map (ren ρ)) n:=rfl
theorem quq {cs:List AVal} (h:qas cs=true):cs.flatMap qa8=[]:=by
 induction cs with
 | nil=>rfl
 | cons v vs ih =>
   simp only[qas,Bool.and_eq_true] at h
   have hv:qa8 v=[]:=by unfold qa8;exact if_pos h.1
   rw[List.flatMap_cons,ih h.2,hv]
   rfl
theorem qu2 (ρ:Nat→Option Nat) {cs:List AVal} (h:qas cs=true):cs.map (ren ρ)=cs:=by
 induction cs with
 | nil=>rfl
 | cons v vs ih =>
   simp only[qas,Bool.and_eq_true] at h
   have hv:ren ρ v=v:=by unfold ren;exact if_pos h.1
   rw[List.map_cons,ih h.2,hv]
theorem qb3 (l:List Int):(l.map qav).flatMap qa8=[]:=quq (qaj l)
theorem qbM (ρ:Nat→Option Nat) (l:List Int):(l.map qav).map (ren ρ)=l.map qav:=qu2 ρ (qaj l)
theorem qp9 (pure:Nat→Bool) (call:CallT) (k:List Nat) (l:List Step) (ns:List (List Nat)) (s:St):qaP pure call (.mdraw k l ns) s=qtz k l ns s:=rfl
theorem qzi {α:Type} (f:α→AVal) (l:List α) (k:Nat) (v:α) (h:k<l.length):(l.map f).take k++f v::(l.map f).drop (k+1)=(l.set k v).map f:=by
 rw[List.map_set,List.set_eq_take_append_cons_drop,if_pos (by simpa using h)]
theorem qyo (l:List Int) (k:Nat) (h:k<l.length):(l.map qav)[k]? = some (.int .i64 (l.getD k 0)):=by
 simp[h,qav]
theorem qgf (t:CTree):acells (qaC t)=[qaC t]:=by cases t;rw[qbs];rfl
theorem qaO {α:Type} (f:α→AVal) (xs:List α) (hl:xs.length<2 ^ 30) (i:Nat) (hi:i<xs.length) :
  ((i:Int)<xs.length)∧IntKind.i64.wrap ((i:Int)+1)=((i+1:Nat):Int)∧(xs.map f)[i]? = some (f xs[i]) :=
 ⟨by omega,by rw[qb6 (by omega) (by omega)];rfl,by simp[hi]⟩
theorem qaQ (n:Nat):¬ ((n:Int)<n):=by omega
end Go.Abs
