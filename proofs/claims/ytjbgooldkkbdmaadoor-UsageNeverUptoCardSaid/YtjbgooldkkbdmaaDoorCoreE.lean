/-
  Core expressions: their data, and how they lie on the abstract machine. Conditions: none.
-/
import Derived.Test.YtjbgooldkkbdmaaDoorSigE
set_option linter.unusedVariables false
set_option linter.unusedSimpArgs false
namespace Go.Abs
structure CAlt where
 tag:Int
 binds:List Int
structure CExpr where
 op:Int
 n:Int
 binds:List Int
 kids:List Int
 alts:List CAlt
inductive CTree where
 | mk (op n:Int) (binds:List Int) (kids:List CTree) (alts:List CAlt)
def qat (n:Int):AVal:=.int .i64 n
def qao (a:CAlt):AVal:=.agg [.int .i64 a.tag,.list (a.binds.map qat) none]
def qal (x:CExpr):AVal:=.agg [.int .i64 x.op,.int .i64 x.n,.list (x.binds.map qat) none,.list (x.kids.map qat) none,.list (x.alts.map qao) none]
def qay:CTree→AVal
 | .mk op n binds kids alts=>.vptr [.int .i64 op,.int .i64 n,.list (binds.map qat) none,.list (kids.attach.map fun k=>qay k.1) none,.list (alts.map qao) none] 0
 termination_by t=>SizeOf.sizeOf t
 decreasing_by
  have:=List.sizeOf_lt_of_mem k.2
  simp only[CTree.mk.sizeOf_spec]
  omega
theorem qba (op n:Int) (binds:List Int) (kids:List CTree) (alts:List CAlt):qay (.mk op n binds kids alts)=.vptr [.int .i64 op,.int .i64 n,.list (binds.map qat) none,.list (kids.map qay) none,.list (alts.map qao) none] 0:=by
 rw[qay]
 simp
theorem CTree.ind {P:CTree→Prop} (h:∀ op n binds kids alts,(∀ k∈kids,P k)→P (.mk op n binds kids alts)):∀ t,P t:=by
 intro t
 generalize hs:SizeOf.sizeOf t=s
 induction s using Nat.strongRecOn generalizing t with
 | ind s ih =>
   cases t with
   | mk op n binds kids alts =>
     refine h _ _ _ _ _ fun k hk=>ih (SizeOf.sizeOf k) ?_ k rfl
     have:=List.sizeOf_lt_of_mem hk
     rw[← hs]
     simp only[CTree.mk.sizeOf_spec]
     omega
theorem qa7 (n:Int):qat n=.int .i64 n:=rfl
theorem qaE (a:CAlt):qao a=.agg [.int .i64 a.tag,.list (a.binds.map qat) none]:=rfl
theorem qaL (x:CExpr):qal x=.agg [.int .i64 x.op,.int .i64 x.n,.list (x.binds.map qat) none,.list (x.kids.map qat) none,.list (x.alts.map qao) none]:=rfl
theorem qac (l:List Int):qaq (l.map qat)=true:=qeg _ (fun _=>rfl) l
theorem qrS (a:CAlt):qap (qao a)=true:=by simp only[qao,qap,qaq,qac,Bool.and_self]
theorem qaf (l:List CAlt):qaq (l.map qao)=true:=qeg _ qrS l
theorem qly (x:CExpr):qap (qal x)=true:=by simp only[qal,qap,qaq,qac,qaf,Bool.and_self]
theorem qaW (l:List CExpr):qaq (l.map qal)=true:=qeg _ qly l
theorem qdd (t:CTree):qap (qay t)=true:=by
 induction t using CTree.ind with
 | h op n binds kids alts ih =>
   rw[qba]
   have hk:qaq (kids.map qay)=true:=by
    induction kids with
    | nil=>rfl
    | cons k ks ihk =>
      rw[List.map_cons,qaq,ih k (by simp),ihk fun x hx=>ih x (by simp[hx])]
      rfl
   simp only[qap,qaq,qac,qaf,hk,Bool.and_self]
theorem qc6 (l:List CTree):qaq (l.map qay)=true:=qeg _ qdd l
theorem qdq (l:List Int):((l.map qat).all fun v=>decide ((acells v).length=1))=true:=all_map _ 1 (fun _=>rfl) l
theorem qcL (l:List CAlt):((l.map qao).all fun v=>decide ((acells v).length=2))=true:=all_map _ 2 (fun _=>rfl) l
theorem qpI (l:List CExpr):((l.map qal).all fun v=>decide ((acells v).length=5))=true:=all_map _ 5 (fun _=>rfl) l
theorem qli (l:List CTree):((l.map qay).all fun v=>decide ((acells v).length=1))=true:=all_map _ 1 (fun t=>by cases t;rw[qba];rfl) l
theorem qe2 (a b:Nat):acells (.vec a b)=[.vec a b]:=rfl
theorem qoD (a b:Nat):wipe (.vec a b)=.vec a b:=rfl
theorem qi6 (a b:Nat):wipeCell (.vec a b)=.vec a b:=rfl
theorem qa6 (a b:Nat):qap (.vec a b)=false:=rfl
theorem qbK (cs:List AVal) (n:Nat):qi9 (.vec cs n)=cs.flatMap qaN:=rfl
theorem qbt (ρ:Nat→Option Nat) (cs:List AVal) (n:Nat):qdF ρ (.vec cs n)=.vec (cs.map (ren ρ)) n:=rfl
theorem qr7 {cs:List AVal} (h:qaq cs=true):cs.flatMap qaN=[]:=by
 induction cs with
 | nil=>rfl
 | cons v vs ih =>
   simp only[qaq,Bool.and_eq_true] at h
   have hv:qaN v=[]:=by unfold qaN;exact if_pos h.1
   rw[List.flatMap_cons,ih h.2,hv]
   rfl
theorem qsy (ρ:Nat→Option Nat) {cs:List AVal} (h:qaq cs=true):cs.map (ren ρ)=cs:=by
 induction cs with
 | nil=>rfl
 | cons v vs ih =>
   simp only[qaq,Bool.and_eq_true] at h
   have hv:ren ρ v=v:=by unfold ren;exact if_pos h.1
   rw[List.map_cons,ih h.2,hv]
theorem qbL (l:List Int):(l.map qat).flatMap qaN=[]:=qr7 (qac l)
theorem qbB (ρ:Nat→Option Nat) (l:List Int):(l.map qat).map (ren ρ)=l.map qat:=qsy ρ (qac l)
theorem qjH (pure:Nat→Bool) (call:CallT) (k:List Nat) (l:List Step) (ns:List (List Nat)) (s:St):qaG pure call (.mdraw k l ns) s=qry k l ns s:=rfl
theorem qvL {α:Type} (f:α→AVal) (l:List α) (k:Nat) (v:α) (h:k<l.length):(l.map f).take k++f v::(l.map f).drop (k+1)=(l.set k v).map f:=by
 rw[List.map_set,List.set_eq_take_append_cons_drop,if_pos (by simpa using h)]
theorem quW (l:List Int) (k:Nat) (h:k<l.length):(l.map qat)[k]? = some (.int .i64 (l.getD k 0)):=by
 simp[h,qat]
theorem qd1 (t:CTree):acells (qay t)=[qay t]:=by cases t;rw[qba];rfl
theorem qqq (t:CTree):leaf (qay t)=true:=by cases t;rw[qba];rfl
theorem qo5 (t:CTree):qcU (qay t)=true:=by cases t;rw[qba];rfl
theorem qrq (t:CTree):wipe (qay t)=qay t:=by cases t;rw[qba];rfl
theorem qps (t:CTree):wipeCell (qay t)=qay t:=by cases t;rw[qba];rfl
theorem qaV {α:Type} (f:α→AVal) (xs:List α) (hl:xs.length<2 ^ 30) (i:Nat) (hi:i<xs.length) :
  ((i:Int)<xs.length)∧IntKind.i64.wrap ((i:Int)+1)=((i+1:Nat):Int)∧(xs.map f)[i]? = some (f xs[i]) :=
 ⟨by omega,by rw[qcz (by omega) (by omega)];rfl,by simp[hi]⟩
theorem qa0 (n:Nat):¬ ((n:Int)<n):=by omega
end Go.Abs
