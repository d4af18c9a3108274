/-
  PARTS OF A PROOF, joined: an abstract machine for quiet code, its evaluation, and what the seat's functions answer on it. Conditions: none.
-/
import Derived.Test.YtpchghpipgpkfaaDoorU
import Derived.Test.YtpchghpipgpkfaaDoorCC
import Derived.KernelRfl
import Derived.Test.YtpchghpipgpkfaaDoorSeatQR
import Derived.Test.YtpchghpipgpkfaaDoorCards
import Derived.Test.YtpchghpipgpkfaaDoorTie
import Derived.WalkKit
import Derived.ProofKit
import Derived.OpenShut
import Derived.Deep.DeepHandedRow
import Derived.Lib.LaidTab
set_option linter.unusedVariables false
set_option linter.unusedSimpArgs false
namespace Go.Abs
open Go.Proofs Go.RowKit Go.WideShapes Go.ChangeShapes
open Go.Proofs.YtpchghpipgpkfaaDoor.Rows (uptoBulk uptoBulkAll)
variable {H:Type} {enc:TypeId × Value→H} {w:World} {base:Nat} {spare:Nat→Bool} {held:Bool}
theorem qpW:Tryd.prog.underlying 3=some (.int .i64):=by kernel_rfl
theorem qBY:Tryd.prog.underlying 40=some (.slice 3):=by kernel_rfl
theorem qCF:fieldsOf Tryd.prog 76=some [(3,0,1),(40,1,1)]:=by kernel_rfl
theorem qBW:Tryd.prog.underlying 41=some (.slice 76):=by kernel_rfl
theorem qBX:fieldsOf Tryd.prog 43=some [(3,0,1),(3,1,1),(40,2,1),(40,3,1),(41,4,1)]:=by kernel_rfl
theorem qwk:Tryd.prog.underlying 22=some (.slice 43):=by kernel_rfl
def inI (n:Int):Prop := -9223372036854775808≤n∧n<9223372036854775808
theorem qfK {t:TypeId} {n:Nat} {cs:List Value} {x:DataW H × List MemPlace} (ht:Tryd.prog.underlying t=some (.int .i64)) (h:DataW.trod enc Tryd.prog w base spare held n t cs=some x):∃ z,x.1=.lit (.int .i64 z)∧qa7 x.1=[.int .i64 z]∧qde x.1=.int .i64 z∧uptoBulk x.1=1∧inI z:=by
 obtain⟨z,_,hx,hw⟩:=DataW.trod_int ht h
 rw[hx]
 refine⟨z,rfl,by rw[qa7],?_,by (rw[uptoBulk];exact fun _ hx=>by cases hx),?_⟩
 ·show ((qa7 (DataW.lit (.int .i64 z):DataW H)).head?).getD .junk=_
  rw[qa7]
  rfl
 ·simp[Lit.wf,IntKind.min,IntKind.max,IntKind.signed,IntKind.bits] at hw
  unfold inI
  omega
theorem quk (n:Nat) (cs:List Value) (x:DataW H × List MemPlace) (h:DataW.trod enc Tryd.prog w base spare held n 3 cs=some x):∃ z,qde x.1=.int .i64 z∧inI z:=by
 obtain⟨z,_,_,h1,_,h2⟩:=qfK qpW h
 exact⟨z,h1,h2⟩
theorem qnv (m:Nat):qCH enc Tryd.prog w base spare held m 40 qav inI (fun _=>1):=by
 intro cs x h
 rcases qnJ qBY h with h1 | ⟨es,rs,n,hn,h1,h2⟩
 ·rw[h1]
  exact⟨[],by rw[qa7];rfl,fun _ a ha=>by simp at ha,by simp,by simp⟩
 ·have h3:∃ l:List Int,es.map (fun y=>qde y.1)=l.map qav∧(∀ a∈l,inI a)∧l.length=es.length:=by
   clear h1
   induction es with
   | nil=>exact⟨[],rfl,(fun a ha=>by cases ha),rfl⟩
   | cons y es ih =>
     obtain⟨l,g1,g2,g3⟩:=ih fun z hz=>h2 z (by simp[hz])
     obtain⟨cs',hy⟩:=h2 y (by simp)
     obtain⟨a,e1,e2⟩:=quk n cs' y hy
     refine⟨a::l,?_,fun b hbm=>?_,by simp[g3]⟩
     ·simp only[List.map_cons,g1,e1]
      rfl
     ·rcases List.mem_cons.1 hbm with rfl | hbm
      ·exact e2
      ·exact g2 b hbm
  obtain⟨l,g1,g2,g3⟩:=h3
  rw[h1]
  have hlen:=qrm (es.map (·.1))
  rw[List.length_map] at hlen
  have hs:(l.map fun _=>1).sum=l.length:=by
   clear g1 g2 g3
   induction l with
   | nil=>rfl
   | cons a l ih=>simp[ih];omega
  refine⟨l,?_,fun _=>g2,?_,?_⟩
  ·rw[qa7,qgO,List.map_map]
   exact congrArg (fun z=>[AVal.list z none]) g1
  ·rw[uptoBulk]
   omega
  ·rw[uptoBulk,hs]
   omega
def qtE (a:CAlt):List AVal:=[.int .i64 a.tag,.list (a.binds.map qav) none]
theorem qCo (a:CAlt):qas a=.agg (qtE a):=rfl
def qBi (a:CAlt):Prop:=a.binds.length<2 ^ 30∧inI a.tag∧∀ n∈a.binds,inI n
theorem qy6 (n:Nat):Dec enc Tryd.prog w base spare held n 76 qtE qBi (fun _=>1):=by
 intro cs x h
 obtain⟨xs,n,hn,hx,hf⟩:=qji qCF h
 obtain⟨a,b,rfl,ha,hb⟩:=qrh hf
 obtain⟨v,_,ea,_,ba,ia⟩:=qfK qpW ha
 obtain⟨l,eb,fb,lb,_⟩:=qnv n _ _ hb
 have hB:uptoBulk x.1=uptoBulk a.1+(uptoBulk b.1+0)+1:=by
  rw[hx,uptoBulk]
  simp only[List.map_cons,List.map_nil,uptoBulkAll]
 have hC:([a,b].map (fun y:DataW H × List MemPlace=>y.1)).flatMap qa7=qtE ⟨v,l⟩:=by
  simp only[List.map_cons,List.map_nil,List.flatMap_cons,List.flatMap_nil,ea,eb,List.append_nil]
  rfl
 refine⟨⟨v,l⟩,?_,?_,fun hb=>⟨by show l.length<_;omega,ia,fb (by omega)⟩,by dsimp only;omega⟩
 ·rw[hx,qoo]
  exact hC
 ·rw[hx,qnl]
  exact congrArg AVal.agg hC
def quq (x:CExpr):List AVal:=[.int .i64 x.op,.int .i64 x.n,.list (x.binds.map qav) none,.list (x.kids.map qav) none,.list (x.alts.map qas) none]
theorem qCp (x:CExpr):qam x=.agg (quq x):=rfl
structure NodeIn (x:CExpr):Prop where
 fit:NodeFit x
 op:inI x.op
 n:inI x.n
 binds:∀ n∈x.binds,inI n
 kids:∀ n∈x.kids,inI n
 alts:∀ a∈x.alts,qBi a
theorem qtL {α β:Type} {R:α→β→Prop} {a b c d e:α} {ys:List β} (h:All2 R [a,b,c,d,e] ys):∃ x y z u v,ys=[x,y,z,u,v]∧R a x∧R b y∧R c z∧R d u∧R e v:=by
 cases h with
 | cons h hs=>obtain⟨y,z,u,v,rfl,h1,h2,h3,h4⟩:=qtM hs;exact⟨_,_,_,_,_,rfl,h,h1,h2,h3,h4⟩
theorem qw6 (n:Nat):Dec enc Tryd.prog w base spare held n 43 quq NodeIn (fun _=>1):=by
 intro cs x h
 obtain⟨xs,n,hn,hx,hf⟩:=qji qBX h
 obtain⟨a,b,c,d,e,rfl,ha,hb,hc,hd,he⟩:=qtL hf
 obtain⟨o,_,ea,_,ba,ia⟩:=qfK qpW ha
 obtain⟨v,_,eb,_,bb,ib⟩:=qfK qpW hb
 obtain⟨l,ec,fc,lc,_⟩:=qnv n _ _ hc
 obtain⟨k,ed,fd,ld,_⟩:=qnv n _ _ hd
 obtain⟨s,ee,fe,le,_⟩:=qui (m:=n) (w:=w) (spare:=spare) (held:=held) (base:=base) (enc:=enc) qBW (fun n' _=>qy6 n') qCo _ _ he
 have hB:uptoBulk x.1=uptoBulk a.1+(uptoBulk b.1+(uptoBulk c.1+(uptoBulk d.1+(uptoBulk e.1+0))))+1:=by
  rw[hx,uptoBulk]
  simp only[List.map_cons,List.map_nil,uptoBulkAll]
 have hC:([a,b,c,d,e].map (fun y:DataW H × List MemPlace=>y.1)).flatMap qa7=quq ⟨o,v,l,k,s⟩:=by
  simp only[List.map_cons,List.map_nil,List.flatMap_cons,List.flatMap_nil,ea,eb,ec,ed,ee]
  rfl
 refine⟨⟨o,v,l,k,s⟩,?_,?_,fun hb=>⟨⟨by show l.length<_;omega,by show k.length<_;omega,by show s.length<_;omega,fun a ha=>(fe (by omega) a ha).1⟩,ia,ib,fc (by omega),fd (by omega),fe (by omega)⟩,by dsimp only;omega⟩
 ·rw[hx,qoo]
  exact hC
 ·rw[hx,qnl]
  exact congrArg AVal.agg hC
theorem quj (n:Nat) (cs:List Value) (x:DataW H × List MemPlace) (h:DataW.trod enc Tryd.prog w base spare held n 22 cs=some x):∃ e:List CExpr,qde x.1=.list (e.map qam) none∧(uptoBulk x.1≤1048576→e.length<2 ^ 30∧∀ x∈e,NodeIn x):=by
 obtain⟨l,e1,e2,e3,_⟩:=qui (m:=n) (w:=w) (spare:=spare) (held:=held) (base:=base) (enc:=enc) qwk (fun n' _=>qw6 n') qCp _ _ h
 refine⟨l,?_,fun hb=>⟨by omega,e2 hb⟩⟩
 rcases qnJ qwk h with h1 | ⟨es,rs,n,hn,h1,h2⟩
 ·rw[h1] at e1 ⊢
  show ((qa7 (DataW.nil:DataW H)).head?).getD .junk=_
  rw[e1]
  rfl
 ·rw[h1] at e1 ⊢
  show ((qa7 (DataW.slice (es.map (·.1)) (rs.map (·.1)):DataW H)).head?).getD .junk=_
  rw[e1]
  rfl
end Go.Abs
namespace Go.Abs
open Go.Proofs Go.RowKit Go.WideShapes Go.ChangeShapes
variable {H:Type} {enc:TypeId × Value→H} {w:World} {base:Nat} {spare:Nat→Bool} {held:Bool}
theorem qBZ:fieldsOf Tryd.prog 24=some [(3,0,1),(3,1,1),(3,2,1)]:=by kernel_rfl
theorem qw7 (n:Nat) (cs:List Value) (x:DataW H × List MemPlace) (h:DataW.trod enc Tryd.prog w base spare held n 24 cs=some x):∃ s:Int × Int × Int,qde x.1=.agg [.int .i64 s.1,.int .i64 s.2.1,.int .i64 s.2.2]∧True:=by
 obtain⟨xs,m,hn,hx,hf⟩:=qji qBZ h
 obtain⟨a,b,c,rfl,ha,hb,hc⟩:=qmn hf
 obtain⟨z0,_,e0,_,_,_⟩:=qfK qpW ha
 obtain⟨z1,_,e1,_,_,_⟩:=qfK qpW hb
 obtain⟨z2,_,e2,_,_,_⟩:=qfK qpW hc
 refine⟨(z0,z1,z2),?_,trivial⟩
 rw[hx,qnl]
 refine congrArg AVal.agg ?_
 simp only[List.map_cons,List.map_nil,List.flatMap_cons,List.flatMap_nil,e0,e1,e2]
 rfl
end Go.Abs
namespace Go.Abs
open Go.Proofs Go.RowKit Go.WideShapes Go.ChangeShapes Go.Proofs.YtpchghpipgpkfaaDoor
theorem qCJ : Tryd.prog.globalNamed "provenance/core.arity" = some 1 := by kernel_rfl
theorem qxk:(Tryd.prog.globals[1]?).map (·.type)=some 149:=by kernel_rfl
theorem qCG:Tryd.prog.underlying 149=some (.array 12 3):=by kernel_rfl
theorem qwY:Tryd.prog.cellsOf 149=12:=by kernel_rfl
theorem qwZ:Tryd.prog.cellsOf 3=1:=by kernel_rfl
def tabZ:List Int:=[2,2,2,2,2,2,2,1,2,1,2,3]
theorem qzm {W : World} (h : Lib.TabIs Tryd.prog W "provenance/core.arity" .i64 tabZ) : GlobOk env (qcB W) := by
 intro g cs hg
 have hg':(globTable.find? (·.1==g)).map (·.2)=some cs:=hg
 unfold globTable at hg'
 by_cases h1:g=1
 ·subst h1
  have hcs:cs=tabZ.map qav:=by
   simp at hg'
   exact hg'.symm
  subst hcs
  refine⟨by kernel_rfl,Rep.vptr_at (b:=1) (o:=0) (tabZ.map (Value.int .i64)) rfl (fun i v hv=>?_) (fun i c v hc hv=>?_) rfl⟩
  ·have hi:i<tabZ.length:=by simpa using (List.getElem?_eq_some_iff.1 hv).1
   have hc:=h.cell qCJ i hi
   have hv':v=Value.int .i64 tabZ[i]:=by
    rw[List.getElem?_map,List.getElem?_eq_getElem hi] at hv
    simpa using hv.symm
   refine qoL ?_ ?_
   ·rw[Nat.zero_add,hc,hv',List.getD_eq_getElem?_getD,List.getElem?_eq_getElem hi];rfl
   ·rw[hv'];rfl
  ·rw[List.getElem?_map] at hc hv
   cases hq:tabZ[i]? with
   | none=>rw[hq] at hc;cases hc
   | some z =>
     rw[hq] at hc hv
     cases hc
     cases hv
     exact .int _ _
 ·have:((1:Nat)==g)=false:=by simpa using fun hx=>h1 hx.symm
  simp[this] at hg'
theorem qnr {L:Lib} {f:Nat} {args:List AVal} {h h':Heap} (hp:pcall L f args h=some (.val (.bool true),h')):∃ h'',call L f args []=some (.val (.bool true),h''):=by
 unfold pcall at hp
 split at hp
 ·rename_i v h2 hc
  split at hp
  ·simp only[Option.some.injEq,Prod.mk.injEq,ARes.val.injEq] at hp
   refine⟨h2,?_⟩
   rw[hc,qlt (u:=.bool true) rfl hp.1]
  ·cases hp
 ·split at hp
  ·simp at hp
  ·cases hp
 ·cases hp
theorem own:ownKnob Tryd.prog.godebug=none:=by kernel_rfl
noncomputable def qla (os:Os):World :=
 { World.holding Tryd.prog os ⟨#[],#[],[]⟩ with heap:=(World.holding Tryd.prog os ⟨#[],#[],[]⟩).heap.modify 1 fun
   | .cells _ t frozen=>.cells #[.int .i64 2,.int .i64 2,.int .i64 2,.int .i64 2,.int .i64 2,.int .i64 2,.int .i64 2,.int .i64 1,.int .i64 2,.int .i64 1,.int .i64 2,.int .i64 3] t frozen
   | o=>o }
theorem qrn {H:Type} {d:DataW H} {ds:List (DataW H)} (h:Rows.uptoSmall H ds=true) (hd:d∈ds):Rows.uptoBulk d≤1048576:=by
 unfold Rows.uptoSmall at h
 have h1:=of_decide_eq_true h
 have h2:=qwR hd
 omega
end Go.Abs
