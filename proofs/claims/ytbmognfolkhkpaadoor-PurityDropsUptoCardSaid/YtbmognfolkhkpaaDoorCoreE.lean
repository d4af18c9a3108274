/-
  Core expressions: their data, and how they lie on the abstract machine. Conditions: none.
-/
import Derived.Test.YtbmognfolkhkpaaDoorSigE
set_option linter.unusedVariables false
set_option linter.unusedSimpArgs false
namespace Go.Abs
structure CAlt where
 tag:Int
 binds:List Int
structure CExpr where
 op:Int
 n:Int
 binds:List Int
 kids:List Int
 alts:List CAlt
inductive CTree where
 | mk (op n:Int) (binds:List Int) (kids:List CTree) (alts:List CAlt)
def qa4 (n:Int):AVal:=.int .i64 n
def qa6 (a:CAlt):AVal:=.agg [.int .i64 a.tag,.list (a.binds.map qa4) none]
def qaO (x:CExpr):AVal:=.agg [.int .i64 x.op,.int .i64 x.n,.list (x.binds.map qa4) none,.list (x.kids.map qa4) none,.list (x.alts.map qa6) none]
def qa1:CTree→AVal
 | .mk op n binds kids alts=>.vptr [.int .i64 op,.int .i64 n,.list (binds.map qa4) none,.list (kids.attach.map fun k=>qa1 k.1) none,.list (alts.map qa6) none] 0
 termination_by t=>SizeOf.sizeOf t
 decreasing_by
  have:=List.sizeOf_lt_of_mem k.2
  simp only[CTree.mk.sizeOf_spec]
  omega
theorem qbJ (op n:Int) (binds:List Int) (kids:List CTree) (alts:List CAlt):qa1 (.mk op n binds kids alts)=.vptr [.int .i64 op,.int .i64 n,.list (binds.map qa4) none,.list (kids.map qa1) none,.list (alts.map qa6) none] 0:=by
 rw[qa1]
 simp
theorem CTree.ind {P:CTree→Prop} (h:∀ op n binds kids alts,(∀ k∈kids,P k)→P (.mk op n binds kids alts)):∀ t,P t:=by
 intro t
 generalize hs:SizeOf.sizeOf t=s
 induction s using Nat.strongRecOn generalizing t with
 | ind s ih =>
   cases t with
   | mk op n binds kids alts =>
     refine h _ _ _ _ _ fun k hk=>ih (SizeOf.sizeOf k) ?_ k rfl
     have:=List.sizeOf_lt_of_mem hk
     rw[← hs]
     simp only[CTree.mk.sizeOf_spec]
     omega
theorem qbM (n:Int):qa4 n=.int .i64 n:=rfl
theorem qbK (a:CAlt):qa6 a=.agg [.int .i64 a.tag,.list (a.binds.map qa4) none]:=rfl
theorem qbB (x:CExpr):qaO x=.agg [.int .i64 x.op,.int .i64 x.n,.list (x.binds.map qa4) none,.list (x.kids.map qa4) none,.list (x.alts.map qa6) none]:=rfl
theorem qaA (l:List Int):qaZ (l.map qa4)=true:=qcW _ (fun _=>rfl) l
theorem qtl (a:CAlt):qbd (qa6 a)=true:=by simp only[qa6,qbd,qaZ,qaA,Bool.and_self]
theorem qaP (l:List CAlt):qaZ (l.map qa6)=true:=qcW _ qtl l
theorem qno (x:CExpr):qbd (qaO x)=true:=by simp only[qaO,qbd,qaZ,qaA,qaP,Bool.and_self]
theorem qbu (l:List CExpr):qaZ (l.map qaO)=true:=qcW _ qno l
theorem qc3 (t:CTree):qbd (qa1 t)=true:=by
 induction t using CTree.ind with
 | h op n binds kids alts ih =>
   rw[qbJ]
   have hk:qaZ (kids.map qa1)=true:=by
    induction kids with
    | nil=>rfl
    | cons k ks ihk =>
      rw[List.map_cons,qaZ,ih k (by simp),ihk fun x hx=>ih x (by simp[hx])]
      rfl
   simp only[qbd,qaZ,qaA,qaP,hk,Bool.and_self]
theorem qb0 (l:List CTree):qaZ (l.map qa1)=true:=qcW _ qc3 l
theorem qeD (l:List Int):((l.map qa4).all fun v=>decide ((acells v).length=1))=true:=qmj _ 1 (fun _=>rfl) l
theorem qei (l:List CAlt):((l.map qa6).all fun v=>decide ((acells v).length=2))=true:=qmj _ 2 (fun _=>rfl) l
theorem qj8 (l:List CExpr):((l.map qaO).all fun v=>decide ((acells v).length=5))=true:=qmj _ 5 (fun _=>rfl) l
theorem qnd (l:List CTree):((l.map qa1).all fun v=>decide ((acells v).length=1))=true:=qmj _ 1 (fun t=>by cases t;rw[qbJ];rfl) l
theorem qiG (a b:Nat):acells (.vec a b)=[.vec a b]:=rfl
theorem quu (a b:Nat):wipe (.vec a b)=.vec a b:=rfl
theorem qoE (a b:Nat):wipeCell (.vec a b)=.vec a b:=rfl
theorem qce (a b:Nat):qbd (.vec a b)=false:=rfl
theorem qcH (cs:List AVal) (n:Nat):qoH (.vec cs n)=cs.flatMap qbT:=rfl
theorem qcA (ρ:Nat→Option Nat) (cs:List AVal) (n:Nat):qgg ρ (.vec cs n)=.vec (cs.map (ren ρ)) n:=rfl
theorem qhf {cs:List AVal} (h:qaZ cs=true):cs.flatMap qbT=[]:=by
 induction cs with
 | nil=>rfl
 | cons v vs ih =>
   simp only[qaZ,Bool.and_eq_true] at h
   have hv:qbT v=[]:=by unfold qbT;exact if_pos h.1
   rw[List.flatMap_cons,ih h.2,hv]
   rfl
theorem qhh (ρ:Nat→Option Nat) {cs:List AVal} (h:qaZ cs=true):cs.map (ren ρ)=cs:=by
 induction cs with
 | nil=>rfl
 | cons v vs ih =>
   simp only[qaZ,Bool.and_eq_true] at h
   have hv:ren ρ v=v:=by unfold ren;exact if_pos h.1
   rw[List.map_cons,ih h.2,hv]
theorem qdb (l:List Int):(l.map qa4).flatMap qbT=[]:=qhf (qaA l)
theorem qcO (ρ:Nat→Option Nat) (l:List Int):(l.map qa4).map (ren ρ)=l.map qa4:=qhh ρ (qaA l)
theorem qqv (pure:Nat→Bool) (call:CallT) (k:List Nat) (l:List Step) (ns:List (List Nat)) (s:St):qbQ pure call (.mdraw k l ns) s=quJ k l ns s:=rfl
theorem qx1 {α:Type} (f:α→AVal) (l:List α) (k:Nat) (v:α) (h:k<l.length):(l.map f).take k++f v::(l.map f).drop (k+1)=(l.set k v).map f:=by
 rw[List.map_set,List.set_eq_take_append_cons_drop,if_pos (by simpa using h)]
theorem qxa (l:List Int) (k:Nat) (h:k<l.length):(l.map qa4)[k]? = some (.int .i64 (l.getD k 0)):=by
 simp[h,qa4]
theorem qfG (t:CTree):acells (qa1 t)=[qa1 t]:=by cases t;rw[qbJ];rfl
theorem qbF {α:Type} (f:α→AVal) (xs:List α) (hl:xs.length<2 ^ 30) (i:Nat) (hi:i<xs.length) :
  ((i:Int)<xs.length)∧IntKind.i64.wrap ((i:Int)+1)=((i+1:Nat):Int)∧(xs.map f)[i]? = some (f xs[i]) :=
 ⟨by omega,by rw[qc5 (by omega) (by omega)];rfl,by simp[hi]⟩
theorem qbG (n:Nat):¬ ((n:Int)<n):=by omega
end Go.Abs
