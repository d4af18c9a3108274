/-
  Core expressions: their data, and how they lie on the abstract machine. Conditions: none.
-/
import Derived.Test.YtpchghpipgpkfaaDoorSigE
set_option linter.unusedVariables false
set_option linter.unusedSimpArgs false
namespace Go.Abs
structure CAlt where
 tag:Int
 binds:List Int
structure CExpr where
 op:Int
 n:Int
 binds:List Int
 kids:List Int
 alts:List CAlt
inductive CTree where
 | mk (op n:Int) (binds:List Int) (kids:List CTree) (alts:List CAlt)
def qat (n:Int):AVal:=.int .i64 n
def qas (a:CAlt):AVal:=.agg [.int .i64 a.tag,.list (a.binds.map qat) none]
def qal (x:CExpr):AVal:=.agg [.int .i64 x.op,.int .i64 x.n,.list (x.binds.map qat) none,.list (x.kids.map qat) none,.list (x.alts.map qas) none]
def qao:CTree→AVal
 | .mk op n binds kids alts=>.vptr [.int .i64 op,.int .i64 n,.list (binds.map qat) none,.list (kids.attach.map fun k=>qao k.1) none,.list (alts.map qas) none] 0
 termination_by t=>SizeOf.sizeOf t
 decreasing_by
  have:=List.sizeOf_lt_of_mem k.2
  simp only[CTree.mk.sizeOf_spec]
  omega
theorem qa5 (op n:Int) (binds:List Int) (kids:List CTree) (alts:List CAlt):qao (.mk op n binds kids alts)=.vptr [.int .i64 op,.int .i64 n,.list (binds.map qat) none,.list (kids.map qao) none,.list (alts.map qas) none] 0:=by
 rw[qao]
 simp
theorem CTree.ind {P:CTree→Prop} (h:∀ op n binds kids alts,(∀ k∈kids,P k)→P (.mk op n binds kids alts)):∀ t,P t:=by
 intro t
 generalize hs:SizeOf.sizeOf t=s
 induction s using Nat.strongRecOn generalizing t with
 | ind s ih =>
   cases t with
   | mk op n binds kids alts =>
     refine h _ _ _ _ _ fun k hk=>ih (SizeOf.sizeOf k) ?_ k rfl
     have:=List.sizeOf_lt_of_mem hk
     rw[← hs]
     simp only[CTree.mk.sizeOf_spec]
     omega
theorem qaT (n:Int):qat n=.int .i64 n:=rfl
theorem qaX (a:CAlt):qas a=.agg [.int .i64 a.tag,.list (a.binds.map qat) none]:=rfl
theorem qaP (x:CExpr):qal x=.agg [.int .i64 x.op,.int .i64 x.n,.list (x.binds.map qat) none,.list (x.kids.map qat) none,.list (x.alts.map qas) none]:=rfl
theorem qah (l:List Int):qaw (l.map qat)=true:=qdU _ (fun _=>rfl) l
theorem qvi (a:CAlt):qaB (qas a)=true:=by simp only[qas,qaB,qaw,qah,Bool.and_self]
theorem qan (l:List CAlt):qaw (l.map qas)=true:=qdU _ qvi l
theorem qnI (x:CExpr):qaB (qal x)=true:=by simp only[qal,qaB,qaw,qah,qan,Bool.and_self]
theorem qaD (l:List CExpr):qaw (l.map qal)=true:=qdU _ qnI l
theorem qbO (t:CTree):qaB (qao t)=true:=by
 induction t using CTree.ind with
 | h op n binds kids alts ih =>
   rw[qa5]
   have hk:qaw (kids.map qao)=true:=by
    induction kids with
    | nil=>rfl
    | cons k ks ihk =>
      rw[List.map_cons,qaw,ih k (by simp),ihk fun x hx=>ih x (by simp[hx])]
      rfl
   simp only[qaB,qaw,qah,qan,hk,Bool.and_self]
theorem qbd (l:List CTree):qaw (l.map qao)=true:=qdU _ qbO l
theorem qd2 (l:List Int):((l.map qat).all fun v=>decide ((acells v).length=1))=true:=all_map _ 1 (fun _=>rfl) l
theorem qcL (l:List CAlt):((l.map qas).all fun v=>decide ((acells v).length=2))=true:=all_map _ 2 (fun _=>rfl) l
theorem qnr (l:List CExpr):((l.map qal).all fun v=>decide ((acells v).length=5))=true:=all_map _ 5 (fun _=>rfl) l
theorem qjt (l:List CTree):((l.map qao).all fun v=>decide ((acells v).length=1))=true:=all_map _ 1 (fun t=>by cases t;rw[qa5];rfl) l
theorem qfZ (a b:Nat):acells (.vec a b)=[.vec a b]:=rfl
theorem qry (a b:Nat):wipe (.vec a b)=.vec a b:=rfl
theorem qkS (a b:Nat):wipeCell (.vec a b)=.vec a b:=rfl
theorem qbp (a b:Nat):qaB (.vec a b)=false:=rfl
theorem qbX (cs:List AVal) (n:Nat):qpp (.vec cs n)=cs.flatMap qa0:=rfl
theorem qbK (ρ:Nat→Option Nat) (cs:List AVal) (n:Nat):qeH ρ (.vec cs n)=.vec (cs.map (ren ρ)) n:=rfl
theorem qvA {cs:List AVal} (h:qaw cs=true):cs.flatMap qa0=[]:=by
 induction cs with
 | nil=>rfl
 | cons v vs ih =>
   simp only[qaw,Bool.and_eq_true] at h
   have hv:qa0 v=[]:=by unfold qa0;exact if_pos h.1
   rw[List.flatMap_cons,ih h.2,hv]
   rfl
theorem qwb (ρ:Nat→Option Nat) {cs:List AVal} (h:qaw cs=true):cs.map (ren ρ)=cs:=by
 induction cs with
 | nil=>rfl
 | cons v vs ih =>
   simp only[qaw,Bool.and_eq_true] at h
   have hv:ren ρ v=v:=by unfold ren;exact if_pos h.1
   rw[List.map_cons,ih h.2,hv]
theorem qbY (l:List Int):(l.map qat).flatMap qa0=[]:=qvA (qah l)
theorem qbT (ρ:Nat→Option Nat) (l:List Int):(l.map qat).map (ren ρ)=l.map qat:=qwb ρ (qah l)
theorem qlw (pure:Nat→Bool) (call:CallT) (k:List Nat) (l:List Step) (ns:List (List Nat)) (s:St):qaY pure call (.mdraw k l ns) s=quX k l ns s:=rfl
theorem qAv {α:Type} (f:α→AVal) (l:List α) (k:Nat) (v:α) (h:k<l.length):(l.map f).take k++f v::(l.map f).drop (k+1)=(l.set k v).map f:=by
 rw[List.map_set,List.set_eq_take_append_cons_drop,if_pos (by simpa using h)]
theorem qzz (l:List Int) (k:Nat) (h:k<l.length):(l.map qat)[k]? = some (.int .i64 (l.getD k 0)):=by
 simp[h,qat]
theorem qc4 (t:CTree):acells (qao t)=[qao t]:=by cases t;rw[qa5];rfl
theorem qtI (t:CTree):leaf (qao t)=true:=by cases t;rw[qa5];rfl
theorem qr3 (t:CTree):qbW (qao t)=true:=by cases t;rw[qa5];rfl
theorem qpl (t:CTree):wipe (qao t)=qao t:=by cases t;rw[qa5];rfl
theorem qst (t:CTree):wipeCell (qao t)=qao t:=by cases t;rw[qa5];rfl
theorem qaM {α:Type} (f:α→AVal) (xs:List α) (hl:xs.length<2 ^ 30) (i:Nat) (hi:i<xs.length) :
  ((i:Int)<xs.length)∧IntKind.i64.wrap ((i:Int)+1)=((i+1:Nat):Int)∧(xs.map f)[i]? = some (f xs[i]) :=
 ⟨by omega,by rw[qb3 (by omega) (by omega)];rfl,by simp[hi]⟩
theorem qaQ (n:Nat):¬ ((n:Int)<n):=by omega
end Go.Abs
