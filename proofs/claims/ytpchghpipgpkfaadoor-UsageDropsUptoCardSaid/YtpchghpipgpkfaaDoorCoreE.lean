/-
  Core expressions: their data, and how they lie on the abstract machine. Conditions: none.
-/
import Derived.Test.YtpchghpipgpkfaaDoorSigE
set_option linter.unusedVariables false
set_option linter.unusedSimpArgs false
namespace Go.Abs
structure CAlt where
 tag:Int
 binds:List Int
structure CExpr where
 op:Int
 n:Int
 binds:List Int
 kids:List Int
 alts:List CAlt
inductive CTree where
 | mk (op n:Int) (binds:List Int) (kids:List CTree) (alts:List CAlt)
def qau (n:Int):AVal:=.int .i64 n
def qar (a:CAlt):AVal:=.agg [.int .i64 a.tag,.list (a.binds.map qau) none]
def qam (x:CExpr):AVal:=.agg [.int .i64 x.op,.int .i64 x.n,.list (x.binds.map qau) none,.list (x.kids.map qau) none,.list (x.alts.map qar) none]
def qaw:CTree→AVal
 | .mk op n binds kids alts=>.vptr [.int .i64 op,.int .i64 n,.list (binds.map qau) none,.list (kids.attach.map fun k=>qaw k.1) none,.list (alts.map qar) none] 0
 termination_by t=>SizeOf.sizeOf t
 decreasing_by
  have:=List.sizeOf_lt_of_mem k.2
  simp only[CTree.mk.sizeOf_spec]
  omega
theorem qa6 (op n:Int) (binds:List Int) (kids:List CTree) (alts:List CAlt):qaw (.mk op n binds kids alts)=.vptr [.int .i64 op,.int .i64 n,.list (binds.map qau) none,.list (kids.map qaw) none,.list (alts.map qar) none] 0:=by
 rw[qaw]
 simp
theorem CTree.ind {P:CTree→Prop} (h:∀ op n binds kids alts,(∀ k∈kids,P k)→P (.mk op n binds kids alts)):∀ t,P t:=by
 intro t
 generalize hs:SizeOf.sizeOf t=s
 induction s using Nat.strongRecOn generalizing t with
 | ind s ih =>
   cases t with
   | mk op n binds kids alts =>
     refine h _ _ _ _ _ fun k hk=>ih (SizeOf.sizeOf k) ?_ k rfl
     have:=List.sizeOf_lt_of_mem hk
     rw[← hs]
     simp only[CTree.mk.sizeOf_spec]
     omega
theorem qa9 (n:Int):qau n=.int .i64 n:=rfl
theorem qaQ (a:CAlt):qar a=.agg [.int .i64 a.tag,.list (a.binds.map qau) none]:=rfl
theorem qaR (x:CExpr):qam x=.agg [.int .i64 x.op,.int .i64 x.n,.list (x.binds.map qau) none,.list (x.kids.map qau) none,.list (x.alts.map qar) none]:=rfl
theorem qah (l:List Int):qas (l.map qau)=true:=qe1 _ (fun _=>rfl) l
theorem quW (a:CAlt):qax (qar a)=true:=by simp only[qar,qax,qas,qah,Bool.and_self]
theorem qak (l:List CAlt):qas (l.map qar)=true:=qe1 _ quW l
theorem qnH (x:CExpr):qax (qam x)=true:=by simp only[qam,qax,qas,qah,qak,Bool.and_self]
theorem qaY (l:List CExpr):qas (l.map qam)=true:=qe1 _ qnH l
theorem qco (t:CTree):qax (qaw t)=true:=by
 induction t using CTree.ind with
 | h op n binds kids alts ih =>
   rw[qa6]
   have hk:qas (kids.map qaw)=true:=by
    induction kids with
    | nil=>rfl
    | cons k ks ihk =>
      rw[List.map_cons,qas,ih k (by simp),ihk fun x hx=>ih x (by simp[hx])]
      rfl
   simp only[qax,qas,qah,qak,hk,Bool.and_self]
theorem qbN (l:List CTree):qas (l.map qaw)=true:=qe1 _ qco l
theorem qcR (l:List Int):((l.map qau).all fun v=>decide ((acells v).length=1))=true:=all_map _ 1 (fun _=>rfl) l
theorem qcQ (l:List CAlt):((l.map qar).all fun v=>decide ((acells v).length=2))=true:=all_map _ 2 (fun _=>rfl) l
theorem qnn (l:List CExpr):((l.map qam).all fun v=>decide ((acells v).length=5))=true:=all_map _ 5 (fun _=>rfl) l
theorem qjh (l:List CTree):((l.map qaw).all fun v=>decide ((acells v).length=1))=true:=all_map _ 1 (fun t=>by cases t;rw[qa6];rfl) l
theorem qfR (a b:Nat):acells (.vec a b)=[.vec a b]:=rfl
theorem qrl (a b:Nat):wipe (.vec a b)=.vec a b:=rfl
theorem qkG (a b:Nat):wipeCell (.vec a b)=.vec a b:=rfl
theorem qbl (a b:Nat):qax (.vec a b)=false:=rfl
theorem qb2 (cs:List AVal) (n:Nat):qkK (.vec cs n)=cs.flatMap qaW:=rfl
theorem qbI (ρ:Nat→Option Nat) (cs:List AVal) (n:Nat):qej ρ (.vec cs n)=.vec (cs.map (ren ρ)) n:=rfl
theorem qvu {cs:List AVal} (h:qas cs=true):cs.flatMap qaW=[]:=by
 induction cs with
 | nil=>rfl
 | cons v vs ih =>
   simp only[qas,Bool.and_eq_true] at h
   have hv:qaW v=[]:=by unfold qaW;exact if_pos h.1
   rw[List.flatMap_cons,ih h.2,hv]
   rfl
theorem qvZ (ρ:Nat→Option Nat) {cs:List AVal} (h:qas cs=true):cs.map (ren ρ)=cs:=by
 induction cs with
 | nil=>rfl
 | cons v vs ih =>
   simp only[qas,Bool.and_eq_true] at h
   have hv:ren ρ v=v:=by unfold ren;exact if_pos h.1
   rw[List.map_cons,ih h.2,hv]
theorem qb3 (l:List Int):(l.map qau).flatMap qaW=[]:=qvu (qah l)
theorem qbV (ρ:Nat→Option Nat) (l:List Int):(l.map qau).map (ren ρ)=l.map qau:=qvZ ρ (qah l)
theorem qll (pure:Nat→Bool) (call:CallT) (k:List Nat) (l:List Step) (ns:List (List Nat)) (s:St):qaS pure call (.mdraw k l ns) s=quB k l ns s:=rfl
theorem qz9 {α:Type} (f:α→AVal) (l:List α) (k:Nat) (v:α) (h:k<l.length):(l.map f).take k++f v::(l.map f).drop (k+1)=(l.set k v).map f:=by
 rw[List.map_set,List.set_eq_take_append_cons_drop,if_pos (by simpa using h)]
theorem qy9 (l:List Int) (k:Nat) (h:k<l.length):(l.map qau)[k]? = some (.int .i64 (l.getD k 0)):=by
 simp[h,qau]
theorem qeI (t:CTree):acells (qaw t)=[qaw t]:=by cases t;rw[qa6];rfl
theorem qtg (t:CTree):leaf (qaw t)=true:=by cases t;rw[qa6];rfl
theorem qrN (t:CTree):qbY (qaw t)=true:=by cases t;rw[qa6];rfl
theorem qus (t:CTree):wipe (qaw t)=qaw t:=by cases t;rw[qa6];rfl
theorem qsb (t:CTree):wipeCell (qaw t)=qaw t:=by cases t;rw[qa6];rfl
theorem qaN {α:Type} (f:α→AVal) (xs:List α) (hl:xs.length<2 ^ 30) (i:Nat) (hi:i<xs.length) :
  ((i:Int)<xs.length)∧IntKind.i64.wrap ((i:Int)+1)=((i+1:Nat):Int)∧(xs.map f)[i]? = some (f xs[i]) :=
 ⟨by omega,by rw[qcl (by omega) (by omega)];rfl,by simp[hi]⟩
theorem qaO (n:Nat):¬ ((n:Int)<n):=by omega
end Go.Abs
