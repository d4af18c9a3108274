/-
  Core expressions: their data, and how they lie on the abstract machine. Conditions: none.
-/
import Derived.Test.YtpchghpipgpkfaaDoorSigE
set_option linter.unusedVariables false
set_option linter.unusedSimpArgs false
namespace Go.Abs
structure CAlt where
 tag:Int
 binds:List Int
structure CExpr where
 op:Int
 n:Int
 binds:List Int
 kids:List Int
 alts:List CAlt
inductive CTree where
 | mk (op n:Int) (binds:List Int) (kids:List CTree) (alts:List CAlt)
def qau (n:Int):AVal:=.int .i64 n
def qaq (a:CAlt):AVal:=.agg [.int .i64 a.tag,.list (a.binds.map qau) none]
def qam (x:CExpr):AVal:=.agg [.int .i64 x.op,.int .i64 x.n,.list (x.binds.map qau) none,.list (x.kids.map qau) none,.list (x.alts.map qaq) none]
def qar:CTree→AVal
 | .mk op n binds kids alts=>.vptr [.int .i64 op,.int .i64 n,.list (binds.map qau) none,.list (kids.attach.map fun k=>qar k.1) none,.list (alts.map qaq) none] 0
 termination_by t=>SizeOf.sizeOf t
 decreasing_by
  have:=List.sizeOf_lt_of_mem k.2
  simp only[CTree.mk.sizeOf_spec]
  omega
theorem qbt (op n:Int) (binds:List Int) (kids:List CTree) (alts:List CAlt):qar (.mk op n binds kids alts)=.vptr [.int .i64 op,.int .i64 n,.list (binds.map qau) none,.list (kids.map qar) none,.list (alts.map qaq) none] 0:=by
 rw[qar]
 simp
theorem CTree.ind {P:CTree→Prop} (h:∀ op n binds kids alts,(∀ k∈kids,P k)→P (.mk op n binds kids alts)):∀ t,P t:=by
 intro t
 generalize hs:SizeOf.sizeOf t=s
 induction s using Nat.strongRecOn generalizing t with
 | ind s ih =>
   cases t with
   | mk op n binds kids alts =>
     refine h _ _ _ _ _ fun k hk=>ih (SizeOf.sizeOf k) ?_ k rfl
     have:=List.sizeOf_lt_of_mem hk
     rw[← hs]
     simp only[CTree.mk.sizeOf_spec]
     omega
theorem qa9 (n:Int):qau n=.int .i64 n:=rfl
theorem qaX (a:CAlt):qaq a=.agg [.int .i64 a.tag,.list (a.binds.map qau) none]:=rfl
theorem qaT (x:CExpr):qam x=.agg [.int .i64 x.op,.int .i64 x.n,.list (x.binds.map qau) none,.list (x.kids.map qau) none,.list (x.alts.map qaq) none]:=rfl
theorem qah (l:List Int):qaw (l.map qau)=true:=qc1 _ (fun _=>rfl) l
theorem quj (a:CAlt):qaC (qaq a)=true:=by simp only[qaq,qaC,qaw,qah,Bool.and_self]
theorem qan (l:List CAlt):qaw (l.map qaq)=true:=qc1 _ quj l
theorem qmO (x:CExpr):qaC (qam x)=true:=by simp only[qam,qaC,qaw,qah,qan,Bool.and_self]
theorem qaz (l:List CExpr):qaw (l.map qam)=true:=qc1 _ qmO l
theorem qcb (t:CTree):qaC (qar t)=true:=by
 induction t using CTree.ind with
 | h op n binds kids alts ih =>
   rw[qbt]
   have hk:qaw (kids.map qar)=true:=by
    induction kids with
    | nil=>rfl
    | cons k ks ihk =>
      rw[List.map_cons,qaw,ih k (by simp),ihk fun x hx=>ih x (by simp[hx])]
      rfl
   simp only[qaC,qaw,qah,qan,hk,Bool.and_self]
theorem qbm (l:List CTree):qaw (l.map qar)=true:=qc1 _ qcb l
theorem qdw (l:List Int):((l.map qau).all fun v=>decide ((acells v).length=1))=true:=all_map _ 1 (fun _=>rfl) l
theorem qdb (l:List CAlt):((l.map qaq).all fun v=>decide ((acells v).length=2))=true:=all_map _ 2 (fun _=>rfl) l
theorem qjc (l:List CExpr):((l.map qam).all fun v=>decide ((acells v).length=5))=true:=all_map _ 5 (fun _=>rfl) l
theorem qmD (l:List CTree):((l.map qar).all fun v=>decide ((acells v).length=1))=true:=all_map _ 1 (fun t=>by cases t;rw[qbt];rfl) l
theorem qhG (a b:Nat):acells (.vec a b)=[.vec a b]:=rfl
theorem qvJ (a b:Nat):wipe (.vec a b)=.vec a b:=rfl
theorem qn7 (a b:Nat):wipeCell (.vec a b)=.vec a b:=rfl
theorem qbr (a b:Nat):qaC (.vec a b)=false:=rfl
theorem qb4 (cs:List AVal) (n:Nat):qn8 (.vec cs n)=cs.flatMap qa1:=rfl
theorem qbM (ρ:Nat→Option Nat) (cs:List AVal) (n:Nat):qex ρ (.vec cs n)=.vec (cs.map (ren ρ)) n:=rfl
theorem quL {cs:List AVal} (h:qaw cs=true):cs.flatMap qa1=[]:=by
 induction cs with
 | nil=>rfl
 | cons v vs ih =>
   simp only[qaw,Bool.and_eq_true] at h
   have hv:qa1 v=[]:=by unfold qa1;exact if_pos h.1
   rw[List.flatMap_cons,ih h.2,hv]
   rfl
theorem qvp (ρ:Nat→Option Nat) {cs:List AVal} (h:qaw cs=true):cs.map (ren ρ)=cs:=by
 induction cs with
 | nil=>rfl
 | cons v vs ih =>
   simp only[qaw,Bool.and_eq_true] at h
   have hv:ren ρ v=v:=by unfold ren;exact if_pos h.1
   rw[List.map_cons,ih h.2,hv]
theorem qb5 (l:List Int):(l.map qau).flatMap qa1=[]:=quL (qah l)
theorem qbQ (ρ:Nat→Option Nat) (l:List Int):(l.map qau).map (ren ρ)=l.map qau:=qvp ρ (qah l)
theorem qqw (pure:Nat→Bool) (call:CallT) (k:List Nat) (l:List Step) (ns:List (List Nat)) (s:St):qaW pure call (.mdraw k l ns) s=qtX k l ns s:=rfl
theorem qzG {α:Type} (f:α→AVal) (l:List α) (k:Nat) (v:α) (h:k<l.length):(l.map f).take k++f v::(l.map f).drop (k+1)=(l.set k v).map f:=by
 rw[List.map_set,List.set_eq_take_append_cons_drop,if_pos (by simpa using h)]
theorem qyI (l:List Int) (k:Nat) (h:k<l.length):(l.map qau)[k]? = some (.int .i64 (l.getD k 0)):=by
 simp[h,qau]
theorem qgy (t:CTree):acells (qar t)=[qar t]:=by cases t;rw[qbt];rfl
theorem qaR {α:Type} (f:α→AVal) (xs:List α) (hl:xs.length<2 ^ 30) (i:Nat) (hi:i<xs.length) :
  ((i:Int)<xs.length)∧IntKind.i64.wrap ((i:Int)+1)=((i+1:Nat):Int)∧(xs.map f)[i]? = some (f xs[i]) :=
 ⟨by omega,by rw[qbX (by omega) (by omega)];rfl,by simp[hi]⟩
theorem qaS (n:Nat):¬ ((n:Int)<n):=by omega
end Go.Abs
