/-
  Core expressions: their data, and how they lie on the abstract machine. Conditions: none.
-/
import Derived.Test.YtpchghpipgpkfaaDoorSigE
set_option linter.unusedVariables false
set_option linter.unusedSimpArgs false
namespace Go.Abs
structure CAlt where
 tag:Int
 binds:List Int
structure CExpr where
 op:Int
 n:Int
 binds:List Int
 kids:List Int
 alts:List CAlt
inductive CTree where
 | mk (op n:Int) (binds:List Int) (kids:List CTree) (alts:List CAlt)
def qau (n:Int):AVal:=.int .i64 n
def qar (a:CAlt):AVal:=.agg [.int .i64 a.tag,.list (a.binds.map qau) none]
def qam (x:CExpr):AVal:=.agg [.int .i64 x.op,.int .i64 x.n,.list (x.binds.map qau) none,.list (x.kids.map qau) none,.list (x.alts.map qar) none]
def qap:CTree→AVal
 | .mk op n binds kids alts=>.vptr [.int .i64 op,.int .i64 n,.list (binds.map qau) none,.list (kids.attach.map fun k=>qap k.1) none,.list (alts.map qar) none] 0
 termination_by t=>SizeOf.sizeOf t
 decreasing_by
  have:=List.sizeOf_lt_of_mem k.2
  simp only[CTree.mk.sizeOf_spec]
  omega
theorem qbr (op n:Int) (binds:List Int) (kids:List CTree) (alts:List CAlt):qap (.mk op n binds kids alts)=.vptr [.int .i64 op,.int .i64 n,.list (binds.map qau) none,.list (kids.map qap) none,.list (alts.map qar) none] 0:=by
 rw[qap]
 simp
theorem CTree.ind {P:CTree→Prop} (h:∀ op n binds kids alts,(∀ k∈kids,P k)→P (.mk op n binds kids alts)):∀ t,P t:=by
 intro t
 generalize hs:SizeOf.sizeOf t=s
 induction s using Nat.strongRecOn generalizing t with
 | ind s ih =>
   cases t with
   | mk op n binds kids alts =>
     refine h _ _ _ _ _ fun k hk=>ih (SizeOf.sizeOf k) ?_ k rfl
     have:=List.sizeOf_lt_of_mem hk
     rw[← hs]
     simp only[CTree.mk.sizeOf_spec]
     omega
theorem qbe (n:Int):qau n=.int .i64 n:=rfl
theorem qaS (a:CAlt):qar a=.agg [.int .i64 a.tag,.list (a.binds.map qau) none]:=rfl
theorem qaV (x:CExpr):qam x=.agg [.int .i64 x.op,.int .i64 x.n,.list (x.binds.map qau) none,.list (x.kids.map qau) none,.list (x.alts.map qar) none]:=rfl
theorem qah (l:List Int):qay (l.map qau)=true:=qdF _ (fun _=>rfl) l
theorem qt8 (a:CAlt):qaA (qar a)=true:=by simp only[qar,qaA,qay,qah,Bool.and_self]
theorem qao (l:List CAlt):qay (l.map qar)=true:=qdF _ qt8 l
theorem qmE (x:CExpr):qaA (qam x)=true:=by simp only[qam,qaA,qay,qah,qao,Bool.and_self]
theorem qaE (l:List CExpr):qay (l.map qam)=true:=qdF _ qmE l
theorem qca (t:CTree):qaA (qap t)=true:=by
 induction t using CTree.ind with
 | h op n binds kids alts ih =>
   rw[qbr]
   have hk:qay (kids.map qap)=true:=by
    induction kids with
    | nil=>rfl
    | cons k ks ihk =>
      rw[List.map_cons,qay,ih k (by simp),ihk fun x hx=>ih x (by simp[hx])]
      rfl
   simp only[qaA,qay,qah,qao,hk,Bool.and_self]
theorem qbj (l:List CTree):qay (l.map qap)=true:=qdF _ qca l
theorem qeq (l:List Int):((l.map qau).all fun v=>decide ((acells v).length=1))=true:=all_map _ 1 (fun _=>rfl) l
theorem qc2 (l:List CAlt):((l.map qar).all fun v=>decide ((acells v).length=2))=true:=all_map _ 2 (fun _=>rfl) l
theorem qrq (l:List CExpr):((l.map qam).all fun v=>decide ((acells v).length=5))=true:=all_map _ 5 (fun _=>rfl) l
theorem qmt (l:List CTree):((l.map qap).all fun v=>decide ((acells v).length=1))=true:=all_map _ 1 (fun t=>by cases t;rw[qbr];rfl) l
theorem qhs (a b:Nat):acells (.vec a b)=[.vec a b]:=rfl
theorem qvv (a b:Nat):wipe (.vec a b)=.vec a b:=rfl
theorem qnY (a b:Nat):wipeCell (.vec a b)=.vec a b:=rfl
theorem qbp (a b:Nat):qaA (.vec a b)=false:=rfl
theorem qb3 (cs:List AVal) (n:Nat):qnZ (.vec cs n)=cs.flatMap qaZ:=rfl
theorem qbK (ρ:Nat→Option Nat) (cs:List AVal) (n:Nat):qeo ρ (.vec cs n)=.vec (cs.map (ren ρ)) n:=rfl
theorem quB {cs:List AVal} (h:qay cs=true):cs.flatMap qaZ=[]:=by
 induction cs with
 | nil=>rfl
 | cons v vs ih =>
   simp only[qay,Bool.and_eq_true] at h
   have hv:qaZ v=[]:=by unfold qaZ;exact if_pos h.1
   rw[List.flatMap_cons,ih h.2,hv]
   rfl
theorem qvb (ρ:Nat→Option Nat) {cs:List AVal} (h:qay cs=true):cs.map (ren ρ)=cs:=by
 induction cs with
 | nil=>rfl
 | cons v vs ih =>
   simp only[qay,Bool.and_eq_true] at h
   have hv:ren ρ v=v:=by unfold ren;exact if_pos h.1
   rw[List.map_cons,ih h.2,hv]
theorem qb4 (l:List Int):(l.map qau).flatMap qaZ=[]:=quB (qah l)
theorem qbO (ρ:Nat→Option Nat) (l:List Int):(l.map qau).map (ren ρ)=l.map qau:=qvb ρ (qah l)
theorem qqq (pure:Nat→Bool) (call:CallT) (k:List Nat) (l:List Step) (ns:List (List Nat)) (s:St):qaR pure call (.mdraw k l ns) s=qtM k l ns s:=rfl
theorem qzs {α:Type} (f:α→AVal) (l:List α) (k:Nat) (v:α) (h:k<l.length):(l.map f).take k++f v::(l.map f).drop (k+1)=(l.set k v).map f:=by
 rw[List.map_set,List.set_eq_take_append_cons_drop,if_pos (by simpa using h)]
theorem qyv (l:List Int) (k:Nat) (h:k<l.length):(l.map qau)[k]? = some (.int .i64 (l.getD k 0)):=by
 simp[h,qau]
theorem qgk (t:CTree):acells (qap t)=[qap t]:=by cases t;rw[qbr];rfl
theorem qaN {α:Type} (f:α→AVal) (xs:List α) (hl:xs.length<2 ^ 30) (i:Nat) (hi:i<xs.length) :
  ((i:Int)<xs.length)∧IntKind.i64.wrap ((i:Int)+1)=((i+1:Nat):Int)∧(xs.map f)[i]? = some (f xs[i]) :=
 ⟨by omega,by rw[qbW (by omega) (by omega)];rfl,by simp[hi]⟩
theorem qaO (n:Nat):¬ ((n:Int)<n):=by omega
end Go.Abs
