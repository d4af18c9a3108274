/-
  Core expressions: their data, and how they lie on the abstract machine. Conditions: none.
-/
import Derived.Test.YtpchghpipgpkfaaDoorSigE
set_option linter.unusedVariables false
set_option linter.unusedSimpArgs false
namespace Go.Abs
structure CAlt where
 tag:Int
 binds:List Int
structure CExpr where
 op:Int
 n:Int
 binds:List Int
 kids:List Int
 alts:List CAlt
inductive CTree where
 | mk (op n:Int) (binds:List Int) (kids:List CTree) (alts:List CAlt)
def qav (n:Int):AVal:=.int .i64 n
def qas (a:CAlt):AVal:=.agg [.int .i64 a.tag,.list (a.binds.map qav) none]
def qam (x:CExpr):AVal:=.agg [.int .i64 x.op,.int .i64 x.n,.list (x.binds.map qav) none,.list (x.kids.map qav) none,.list (x.alts.map qas) none]
def qao:CTree→AVal
 | .mk op n binds kids alts=>.vptr [.int .i64 op,.int .i64 n,.list (binds.map qav) none,.list (kids.attach.map fun k=>qao k.1) none,.list (alts.map qas) none] 0
 termination_by t=>SizeOf.sizeOf t
 decreasing_by
  have:=List.sizeOf_lt_of_mem k.2
  simp only[CTree.mk.sizeOf_spec]
  omega
theorem qbj (op n:Int) (binds:List Int) (kids:List CTree) (alts:List CAlt):qao (.mk op n binds kids alts)=.vptr [.int .i64 op,.int .i64 n,.list (binds.map qav) none,.list (kids.map qao) none,.list (alts.map qas) none] 0:=by
 rw[qao]
 simp
theorem CTree.ind {P:CTree→Prop} (h:∀ op n binds kids alts,(∀ k∈kids,P k)→P (.mk op n binds kids alts)):∀ t,P t:=by
 intro t
 generalize hs:SizeOf.sizeOf t=s
 induction s using Nat.strongRecOn generalizing t with
 | ind s ih =>
   cases t with
   | mk op n binds kids alts =>
     refine h _ _ _ _ _ fun k hk=>ih (SizeOf.sizeOf k) ?_ k rfl
     have:=List.sizeOf_lt_of_mem hk
     rw[← hs]
     simp only[CTree.mk.sizeOf_spec]
     omega
theorem qa1 (n:Int):qav n=.int .i64 n:=rfl
theorem qaZ (a:CAlt):qas a=.agg [.int .i64 a.tag,.list (a.binds.map qav) none]:=rfl
theorem qa5 (x:CExpr):qam x=.agg [.int .i64 x.op,.int .i64 x.n,.list (x.binds.map qav) none,.list (x.kids.map qav) none,.list (x.alts.map qas) none]:=rfl
theorem qah (l:List Int):qax (l.map qav)=true:=qfL _ (fun _=>rfl) l
theorem qw5 (a:CAlt):qaH (qas a)=true:=by simp only[qas,qaH,qax,qah,Bool.and_self]
theorem qap (l:List CAlt):qax (l.map qas)=true:=qfL _ qw5 l
theorem qoB (x:CExpr):qaH (qam x)=true:=by simp only[qam,qaH,qax,qah,qap,Bool.and_self]
theorem qaI (l:List CExpr):qax (l.map qam)=true:=qfL _ qoB l
theorem qbY (t:CTree):qaH (qao t)=true:=by
 induction t using CTree.ind with
 | h op n binds kids alts ih =>
   rw[qbj]
   have hk:qax (kids.map qao)=true:=by
    induction kids with
    | nil=>rfl
    | cons k ks ihk =>
      rw[List.map_cons,qax,ih k (by simp),ihk fun x hx=>ih x (by simp[hx])]
      rfl
   simp only[qaH,qax,qah,qap,hk,Bool.and_self]
theorem qbi (l:List CTree):qax (l.map qao)=true:=qfL _ qbY l
theorem qfq (l:List Int):((l.map qav).all fun v=>decide ((acells v).length=1))=true:=all_map _ 1 (fun _=>rfl) l
theorem qdF (l:List CAlt):((l.map qas).all fun v=>decide ((acells v).length=2))=true:=all_map _ 2 (fun _=>rfl) l
theorem qtN (l:List CExpr):((l.map qam).all fun v=>decide ((acells v).length=5))=true:=all_map _ 5 (fun _=>rfl) l
theorem qos (l:List CTree):((l.map qao).all fun v=>decide ((acells v).length=1))=true:=all_map _ 1 (fun t=>by cases t;rw[qbj];rfl) l
theorem qgK (a b:Nat):acells (.vec a b)=[.vec a b]:=rfl
theorem qyt (a b:Nat):wipe (.vec a b)=.vec a b:=rfl
theorem qp7 (a b:Nat):wipeCell (.vec a b)=.vec a b:=rfl
theorem qbA (a b:Nat):qaH (.vec a b)=false:=rfl
theorem qcs (cs:List AVal) (n:Nat):qp9 (.vec cs n)=cs.flatMap qa9:=rfl
theorem qb9 (ρ:Nat→Option Nat) (cs:List AVal) (n:Nat):qfp ρ (.vec cs n)=.vec (cs.map (ren ρ)) n:=rfl
theorem qxq {cs:List AVal} (h:qax cs=true):cs.flatMap qa9=[]:=by
 induction cs with
 | nil=>rfl
 | cons v vs ih =>
   simp only[qax,Bool.and_eq_true] at h
   have hv:qa9 v=[]:=by unfold qa9;exact if_pos h.1
   rw[List.flatMap_cons,ih h.2,hv]
   rfl
theorem qx5 (ρ:Nat→Option Nat) {cs:List AVal} (h:qax cs=true):cs.map (ren ρ)=cs:=by
 induction cs with
 | nil=>rfl
 | cons v vs ih =>
   simp only[qax,Bool.and_eq_true] at h
   have hv:ren ρ v=v:=by unfold ren;exact if_pos h.1
   rw[List.map_cons,ih h.2,hv]
theorem qct (l:List Int):(l.map qav).flatMap qa9=[]:=qxq (qah l)
theorem qcc (ρ:Nat→Option Nat) (l:List Int):(l.map qav).map (ren ρ)=l.map qav:=qx5 ρ (qah l)
theorem qsJ (pure:Nat→Bool) (call:CallT) (k:List Nat) (l:List Step) (ns:List (List Nat)) (s:St):qa0 pure call (.mdraw k l ns) s=qwH k l ns s:=rfl
theorem qCB {α:Type} (f:α→AVal) (l:List α) (k:Nat) (v:α) (h:k<l.length):(l.map f).take k++f v::(l.map f).drop (k+1)=(l.set k v).map f:=by
 rw[List.map_set,List.set_eq_take_append_cons_drop,if_pos (by simpa using h)]
theorem qBz (l:List Int) (k:Nat) (h:k<l.length):(l.map qav)[k]? = some (.int .i64 (l.getD k 0)):=by
 simp[h,qav]
theorem qer (t:CTree):acells (qao t)=[qao t]:=by cases t;rw[qbj];rfl
theorem qwv (t:CTree):wipe (qao t)=qao t:=by cases t;rw[qbj];rfl
theorem qaN {α:Type} (f:α→AVal) (xs:List α) (hl:xs.length<2 ^ 30) (i:Nat) (hi:i<xs.length) :
  ((i:Int)<xs.length)∧IntKind.i64.wrap ((i:Int)+1)=((i+1:Nat):Int)∧(xs.map f)[i]? = some (f xs[i]) :=
 ⟨by omega,by rw[qcy (by omega) (by omega)];rfl,by simp[hi]⟩
theorem qaQ (n:Nat):¬ ((n:Int)<n):=by omega
end Go.Abs
