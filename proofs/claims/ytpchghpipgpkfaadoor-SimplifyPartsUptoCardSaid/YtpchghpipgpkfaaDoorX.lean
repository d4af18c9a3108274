/-
  PARTS OF A PROOF, joined: an abstract machine for quiet code, its evaluation, and what the seat's functions answer on it. Conditions: none.
-/
import Derived.Test.YtpchghpipgpkfaaDoorU
import Derived.Test.YtpchghpipgpkfaaDoorCC
import Derived.KernelRfl
import Derived.Test.YtpchghpipgpkfaaDoorSeatQJ
import Derived.Test.YtpchghpipgpkfaaDoorCards
import Derived.Test.YtpchghpipgpkfaaDoorTie
import Derived.WalkKit
import Derived.ProofKit
import Derived.OpenShut
import Derived.Deep.DeepHandedRow
import Derived.Lib.LaidTab
set_option linter.unusedVariables false
set_option linter.unusedSimpArgs false
namespace Go.Abs
open Go.Proofs Go.RowKit Go.WideShapes Go.ChangeShapes
open Go.Proofs.YtpchghpipgpkfaaDoor.Rows (uptoBulk uptoBulkAll)
variable {H:Type} {enc:TypeId × Value→H} {w:World} {base:Nat} {spare:Nat→Bool} {held:Bool}
theorem qqL:Tryd.prog.underlying 3=some (.int .i64):=by kernel_rfl
theorem qyz:Tryd.prog.underlying 40=some (.slice 3):=by kernel_rfl
theorem qza:fieldsOf Tryd.prog 76=some [(3,0,1),(40,1,1)]:=by kernel_rfl
theorem qyw:Tryd.prog.underlying 41=some (.slice 76):=by kernel_rfl
theorem qyy:fieldsOf Tryd.prog 43=some [(3,0,1),(3,1,1),(40,2,1),(40,3,1),(41,4,1)]:=by kernel_rfl
theorem qs4:Tryd.prog.underlying 22=some (.slice 43):=by kernel_rfl
def inI (n:Int):Prop := -9223372036854775808≤n∧n<9223372036854775808
theorem qix {t:TypeId} {n:Nat} {cs:List Value} {x:DataW H × List MemPlace} (ht:Tryd.prog.underlying t=some (.int .i64)) (h:DataW.trod enc Tryd.prog w base spare held n t cs=some x):∃ z,x.1=.lit (.int .i64 z)∧qaZ x.1=[.int .i64 z]∧qcC x.1=.int .i64 z∧uptoBulk x.1=1∧inI z:=by
 obtain⟨z,_,hx,hw⟩:=DataW.trod_int ht h
 rw[hx]
 refine⟨z,rfl,by rw[qaZ],?_,by (rw[uptoBulk];exact fun _ hx=>by cases hx),?_⟩
 ·show ((qaZ (DataW.lit (.int .i64 z):DataW H)).head?).getD .junk=_
  rw[qaZ]
  rfl
 ·simp[Lit.wf,IntKind.min,IntKind.max,IntKind.signed,IntKind.bits] at hw
  unfold inI
  omega
theorem qob (n:Nat) (cs:List Value) (x:DataW H × List MemPlace) (h:DataW.trod enc Tryd.prog w base spare held n 3 cs=some x):∃ z,qcC x.1=.int .i64 z∧inI z:=by
 obtain⟨z,_,_,h1,_,h2⟩:=qix qqL h
 exact⟨z,h1,h2⟩
theorem qlo (m:Nat):qzd enc Tryd.prog w base spare held m 40 qaw inI (fun _=>1):=by
 intro cs x h
 rcases qlD qyz h with h1 | ⟨es,rs,n,hn,h1,h2⟩
 ·rw[h1]
  exact⟨[],by rw[qaZ];rfl,fun _ a ha=>by simp at ha,by simp,by simp⟩
 ·have h3:∃ l:List Int,es.map (fun y=>qcC y.1)=l.map qaw∧(∀ a∈l,inI a)∧l.length=es.length:=by
   clear h1
   induction es with
   | nil=>exact⟨[],rfl,(fun a ha=>by cases ha),rfl⟩
   | cons y es ih =>
     obtain⟨l,g1,g2,g3⟩:=ih fun z hz=>h2 z (by simp[hz])
     obtain⟨cs',hy⟩:=h2 y (by simp)
     obtain⟨a,e1,e2⟩:=qob n cs' y hy
     refine⟨a::l,?_,fun b hbm=>?_,by simp[g3]⟩
     ·simp only[List.map_cons,g1,e1]
      rfl
     ·rcases List.mem_cons.1 hbm with rfl | hbm
      ·exact e2
      ·exact g2 b hbm
  obtain⟨l,g1,g2,g3⟩:=h3
  rw[h1]
  have hlen:=qoU (es.map (·.1))
  rw[List.length_map] at hlen
  have hs:(l.map fun _=>1).sum=l.length:=by
   clear g1 g2 g3
   induction l with
   | nil=>rfl
   | cons a l ih=>simp[ih];omega
  refine⟨l,?_,fun _=>g2,?_,?_⟩
  ·rw[qaZ,qft,List.map_map]
   exact congrArg (fun z=>[AVal.list z none]) g1
  ·rw[uptoBulk]
   omega
  ·rw[uptoBulk,hs]
   omega
def qqU (a:CAlt):List AVal:=[.int .i64 a.tag,.list (a.binds.map qaw) none]
theorem qyV (a:CAlt):qax a=.agg (qqU a):=rfl
def qxS (a:CAlt):Prop:=a.binds.length<2 ^ 30∧inI a.tag∧∀ n∈a.binds,inI n
theorem qvP (n:Nat):Dec enc Tryd.prog w base spare held n 76 qqU qxS (fun _=>1):=by
 intro cs x h
 obtain⟨xs,n,hn,hx,hf⟩:=qk7 qza h
 obtain⟨a,b,rfl,ha,hb⟩:=qoN hf
 obtain⟨v,_,ea,_,ba,ia⟩:=qix qqL ha
 obtain⟨l,eb,fb,lb,_⟩:=qlo n _ _ hb
 have hB:uptoBulk x.1=uptoBulk a.1+(uptoBulk b.1+0)+1:=by
  rw[hx,uptoBulk]
  simp only[List.map_cons,List.map_nil,uptoBulkAll]
 have hC:([a,b].map (fun y:DataW H × List MemPlace=>y.1)).flatMap qaZ=qqU ⟨v,l⟩:=by
  simp only[List.map_cons,List.map_nil,List.flatMap_cons,List.flatMap_nil,ea,eb,List.append_nil]
  rfl
 refine⟨⟨v,l⟩,?_,?_,fun hb=>⟨by show l.length<_;omega,ia,fb (by omega)⟩,by dsimp only;omega⟩
 ·rw[hx,qmd]
  exact hC
 ·rw[hx,qoM]
  exact congrArg AVal.agg hC
def qrx (x:CExpr):List AVal:=[.int .i64 x.op,.int .i64 x.n,.list (x.binds.map qaw) none,.list (x.kids.map qaw) none,.list (x.alts.map qax) none]
theorem qyW (x:CExpr):qal x=.agg (qrx x):=rfl
structure NodeIn (x:CExpr):Prop where
 fit:NodeFit x
 op:inI x.op
 n:inI x.n
 binds:∀ n∈x.binds,inI n
 kids:∀ n∈x.kids,inI n
 alts:∀ a∈x.alts,qxS a
theorem qq1 {α β:Type} {R:α→β→Prop} {a b c d e:α} {ys:List β} (h:All2 R [a,b,c,d,e] ys):∃ x y z u v,ys=[x,y,z,u,v]∧R a x∧R b y∧R c z∧R d u∧R e v:=by
 cases h with
 | cons h hs=>obtain⟨y,z,u,v,rfl,h1,h2,h3,h4⟩:=qq2 hs;exact⟨_,_,_,_,_,rfl,h,h1,h2,h3,h4⟩
theorem qtN (n:Nat):Dec enc Tryd.prog w base spare held n 43 qrx NodeIn (fun _=>1):=by
 intro cs x h
 obtain⟨xs,n,hn,hx,hf⟩:=qk7 qyy h
 obtain⟨a,b,c,d,e,rfl,ha,hb,hc,hd,he⟩:=qq1 hf
 obtain⟨o,_,ea,_,ba,ia⟩:=qix qqL ha
 obtain⟨v,_,eb,_,bb,ib⟩:=qix qqL hb
 obtain⟨l,ec,fc,lc,_⟩:=qlo n _ _ hc
 obtain⟨k,ed,fd,ld,_⟩:=qlo n _ _ hd
 obtain⟨s,ee,fe,le,_⟩:=qrr (m:=n) (w:=w) (spare:=spare) (held:=held) (base:=base) (enc:=enc) qyw (fun n' _=>qvP n') qyV _ _ he
 have hB:uptoBulk x.1=uptoBulk a.1+(uptoBulk b.1+(uptoBulk c.1+(uptoBulk d.1+(uptoBulk e.1+0))))+1:=by
  rw[hx,uptoBulk]
  simp only[List.map_cons,List.map_nil,uptoBulkAll]
 have hC:([a,b,c,d,e].map (fun y:DataW H × List MemPlace=>y.1)).flatMap qaZ=qrx ⟨o,v,l,k,s⟩:=by
  simp only[List.map_cons,List.map_nil,List.flatMap_cons,List.flatMap_nil,ea,eb,ec,ed,ee]
  rfl
 refine⟨⟨o,v,l,k,s⟩,?_,?_,fun hb=>⟨⟨by show l.length<_;omega,by show k.length<_;omega,by show s.length<_;omega,fun a ha=>(fe (by omega) a ha).1⟩,ia,ib,fc (by omega),fd (by omega),fe (by omega)⟩,by dsimp only;omega⟩
 ·rw[hx,qmd]
  exact hC
 ·rw[hx,qoM]
  exact congrArg AVal.agg hC
theorem qrs (n:Nat) (cs:List Value) (x:DataW H × List MemPlace) (h:DataW.trod enc Tryd.prog w base spare held n 22 cs=some x):∃ e:List CExpr,qcC x.1=.list (e.map qal) none∧(uptoBulk x.1≤1048576→e.length<2 ^ 30∧∀ x∈e,NodeIn x):=by
 obtain⟨l,e1,e2,e3,_⟩:=qrr (m:=n) (w:=w) (spare:=spare) (held:=held) (base:=base) (enc:=enc) qs4 (fun n' _=>qtN n') qyW _ _ h
 refine⟨l,?_,fun hb=>⟨by omega,e2 hb⟩⟩
 rcases qlD qs4 h with h1 | ⟨es,rs,n,hn,h1,h2⟩
 ·rw[h1] at e1 ⊢
  show ((qaZ (DataW.nil:DataW H)).head?).getD .junk=_
  rw[e1]
  rfl
 ·rw[h1] at e1 ⊢
  show ((qaZ (DataW.slice (es.map (·.1)) (rs.map (·.1)):DataW H)).head?).getD .junk=_
  rw[e1]
  rfl
end Go.Abs
namespace Go.Abs
open Go.Proofs Go.RowKit Go.WideShapes Go.ChangeShapes Go.Proofs.YtpchghpipgpkfaaDoor
theorem qzg : Tryd.prog.globalNamed "provenance/core.arity" = some 1 := by kernel_rfl
theorem qt9:(Tryd.prog.globals[1]?).map (·.type)=some 149:=by kernel_rfl
theorem qzb:Tryd.prog.underlying 149=some (.array 12 3):=by kernel_rfl
theorem qtE:Tryd.prog.cellsOf 149=12:=by kernel_rfl
theorem qo1:Tryd.prog.cellsOf 3=1:=by kernel_rfl
theorem qx7 : Tryd.prog.globalNamed "provenance/rewrite.order" = some 0 := by kernel_rfl
theorem qrL:(Tryd.prog.globals[0]?).map (·.type)=some 81:=by kernel_rfl
theorem qyx:Tryd.prog.underlying 81=some (.array 10 3):=by kernel_rfl
theorem qre:Tryd.prog.cellsOf 81=10:=by kernel_rfl
def tabZ:List Int:=[2,2,2,2,2,2,2,1,2,1,2,3]
def tabO:List Int:=[3,4,6,7,5,1,2,11,8,9]
theorem qr4 {P:Program} {x:String × DataW Unit} {r:List (String × DataW Unit)} {w:World} (h:laidMet P (x::r) w):laidMet P r w:=by
 obtain⟨ps,⟨g,t,cs,fuel,p,q,_,_,_,_,hq,rfl⟩,hn,hc⟩:=h
 exact⟨q,hq,(List.nodup_append.1 hn).2.1,fun b off hm=>hc b off (List.mem_append_right _ hm)⟩
theorem qpd {W:World} {name:String} {g:Nat} {zs:List Int} (hn:Tryd.prog.globalNamed name=some g) (h:Lib.TabIs Tryd.prog W name .i64 zs):qas (zs.map qaw)=true∧Rep env (qbZ W) (.vptr (zs.map qaw) 0) (.pointer (some ⟨g,0,none⟩)):=by
 refine⟨qai zs,Rep.vptr_at (b:=g) (o:=0) (zs.map (Value.int .i64)) (by simp) (fun i v hv=>?_) (fun i c v hc hv=>?_) rfl⟩
 ·have hi:i<zs.length:=by simpa using (List.getElem?_eq_some_iff.1 hv).1
  have hc:=h.cell hn i hi
  have hv':v=Value.int .i64 zs[i]:=by
   rw[List.getElem?_map,List.getElem?_eq_getElem hi] at hv
   simpa using hv.symm
  refine qmz ?_ ?_
  ·rw[Nat.zero_add,hc,hv',List.getD_eq_getElem?_getD,List.getElem?_eq_getElem hi];rfl
  ·rw[hv'];rfl
 ·rw[List.getElem?_map] at hc hv
  cases hq:zs[i]? with
  | none=>rw[hq] at hc;cases hc
  | some z =>
    rw[hq] at hc hv
    cases hc
    cases hv
    exact .int _ _
theorem qv3 {W : World} (h : Lib.TabIs Tryd.prog W "provenance/core.arity" .i64 tabZ) (hO : Lib.TabIs Tryd.prog W "provenance/rewrite.order" .i64 tabO) : GlobOk env (qbZ W) := by
 intro g cs hg
 have hg':(globTable.find? (·.1==g)).map (·.2)=some cs:=hg
 unfold globTable at hg'
 by_cases h1:g=1
 ·subst h1
  have hcs:cs=tabZ.map qaw:=by
   simp at hg'
   exact hg'.symm
  subst hcs
  exact qpd qzg h
 by_cases h2:g=0
 ·subst h2
  have hcs:cs=tabO.map qaw:=by
   simp at hg'
   exact hg'.symm
  subst hcs
  exact qpd qx7 hO
 ·have e1:((1:Nat)==g)=false:=by simpa using fun hx=>h1 hx.symm
  have e2:((0:Nat)==g)=false:=by simpa using fun hx=>h2 hx.symm
  simp[e1,e2] at hg'
theorem qlk {L:Lib} {f:Nat} {args:List AVal} {h h':Heap} (hp:pcall L f args h=some (.val (.bool true),h')):∃ h'',call L f args []=some (.val (.bool true),h''):=by
 unfold pcall at hp
 split at hp
 ·rename_i v h2 hc
  split at hp
  ·simp only[Option.some.injEq,Prod.mk.injEq,ARes.val.injEq] at hp
   refine⟨h2,?_⟩
   rw[hc,qjF (u:=.bool true) rfl hp.1]
  ·cases hp
 ·split at hp
  ·simp at hp
  ·cases hp
 ·cases hp
theorem own:ownKnob Tryd.prog.godebug=none:=by kernel_rfl
noncomputable def qjt (os:Os):World :=
 { World.holding Tryd.prog os ⟨#[],#[],[]⟩ with heap:=((World.holding Tryd.prog os ⟨#[],#[],[]⟩).heap.modify 1 (fun | .cells _ t frozen=>.cells #[.int .i64 2,.int .i64 2,.int .i64 2,.int .i64 2,.int .i64 2,.int .i64 2,.int .i64 2,.int .i64 1,.int .i64 2,.int .i64 1,.int .i64 2,.int .i64 3] t frozen | o=>o)).modify 0 (fun | .cells _ t frozen=>.cells #[.int .i64 3,.int .i64 4,.int .i64 6,.int .i64 7,.int .i64 5,.int .i64 1,.int .i64 2,.int .i64 11,.int .i64 8,.int .i64 9] t frozen | o=>o) }
theorem qoV {H:Type} {d:DataW H} {ds:List (DataW H)} (h:Rows.uptoSmall H ds=true) (hd:d∈ds):Rows.uptoBulk d≤1048576:=by
 unfold Rows.uptoSmall at h
 have h1:=of_decide_eq_true h
 have h2:=qtx hd
 omega
end Go.Abs
