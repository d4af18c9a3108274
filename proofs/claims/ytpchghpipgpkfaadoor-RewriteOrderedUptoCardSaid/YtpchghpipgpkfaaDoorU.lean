/-
  PARTS OF A PROOF, joined: an abstract machine for quiet code, its evaluation, and what the seat's functions answer on it. Conditions: none.
-/
import Derived.Test.YtpchghpipgpkfaaDoorAbsN
import Derived.Below
import Derived.Test.YtpchghpipgpkfaaDoorAbsT
set_option linter.unusedVariables false
namespace Go.Abs
open Go.RowKit
variable {E:Env} {G:Ghost} {h:Heap} {w w':World}
theorem qjc (hi:Inv E G h w) (hb:Below w.heap.size w w'):Post E G h w G h w':=by
 have hc:∀ b o v,G.fix b o=some v→w'.cell? ⟨b,o,none⟩=some v:=by
  intro b o v e
  have h1:=hi.fix b o v e
  have h2:b<w.heap.size:=hi.fix_lt (b:=b) (by rw[e];simp)
  have h3:=hb.block b h2
  unfold World.cell? at h1 ⊢
  rw[h3]
  exact h1
 refine⟨.refl G,⟨hc,hi.one,fun id o e=>?_,hi.sep,hi.dom,hi.tab.keep (fun _ _ _ e=>e) hb.block⟩,hb.size,fun b hlt _=>hb.block b hlt,fun _ _ e=>.inl e,fun _ e=>.inl e,hb.os,hb.tape,hb.output⟩
 exact (hi.obj id o e).keep (.refl G) (fun b ho=>hb.block b (hi.owns_lt e ho)) (fun _ _ _=>rfl) (fun _=>rfl)
theorem qmc (hi:Inv E G h w) (hb:Below w.heap.size w w') {g:Nat} (hg:w.heap.size≤g) (cs:List AVal) (vs:Array Value) (t:TypeId) (cap n sz:Nat) (hc:w'.heap[g]? = some (.cells vs t (0,0)))
  (hs:vs.size=cap*sz) (hl:cs.length≤vs.size) (hr:RepL E G cs (vs.toList.take cs.length)):Post E G h w (G.withVec h.length g n cap sz) (h++[.vec cs sz]) w':=by
 have hp:=qjc hi hb
 have hle:G.le (G.withVec h.length g n cap sz):=⟨fun _ _ _ e=>e,fun id b e=>by
  have:id≠h.length:=fun hx=>by
   have:=(hi.dom id (by omega)).1
   rw[e] at this;cases this
  simpa[Ghost.withVec,this] using e,fun id m x e=>by
  have:id≠h.length:=fun hx=>by
   have:=(hi.dom id (by omega)).2 m
   rw[e] at this;cases this
  simpa[Ghost.withVec,this] using e⟩
 have hold:∀ id o',h[id]? = some o'→∀ b,qcz (G.withVec h.length g n cap sz) id o' b→qcz G id o' b:=by
  intro id o' he b hw
  have hne:id≠h.length:=fun hx=>by
   have:=(List.getElem?_eq_some_iff.1 he).1
   omega
  cases o' with
  | gone=>exact hw
  | tail n sz=>obtain⟨c,e⟩:=hw;simp only[Ghost.withVec,if_neg hne] at e;exact⟨c,e⟩
  | _=>have hw':(G.withVec h.length g n cap sz).blk id=some b:=hw;simp only[Ghost.withVec,if_neg hne] at hw';exact hw'
 have hnew:∀ {b'},qcz (G.withVec h.length g n cap sz) h.length (.vec cs sz) b'→b'=g:=fun {b'} hw=>by
  simp[qcz,Ghost.withVec] at hw
  exact hw.symm
 have hgf:∀ o,G.fix g o=none:=by
  intro o
  cases hx:G.fix g o with
  | none=>rfl
  | some v=>exact absurd (hi.fix_lt (b:=g) (o:=o) (by rw[hx];simp)) (by omega)
 refine⟨hle,⟨hp.inv.fix,hi.one,fun id o' e=>?_,fun id o1 id' o2 b e e' h1 h2=>?_,fun id e=>?_,hi.tab.keep (fun _ _ _ e=>e) hb.block⟩,hb.size,fun b hlt _=>hb.block b hlt,fun _ _ e=>.inl e,fun b ho=>?_,hb.os,hb.tape,hb.output⟩
 ·rcases qbk e with ⟨hlt,e'⟩ | ⟨rfl,rfl⟩
  ·exact (hi.obj id o' e').keep hle (fun b hb'=>hb.block b (hi.owns_lt e' hb')) (fun b _ q=>rfl) (fun m=>if_neg (by omega))
  ·refine⟨g,cap,vs,t,by simp[Ghost.withVec],hc,hs,hl,hr.mono hle,hgf,fun m x e=>?_⟩
   simp only[Ghost.withVec,if_true] at e
   split at e
   ·injection e with e
    exact e.symm
   ·cases e
 ·rcases qbk e with ⟨hlt,e1⟩ | ⟨rfl,rfl⟩<;>rcases qbk e' with ⟨hlt',e2⟩ | ⟨rfl,rfl⟩
  ·exact hi.sep id o1 id' o2 b e1 e2 (hold _ _ e1 _ h1) (hold _ _ e2 _ h2)
  ·have:=hi.owns_lt e1 (hold _ _ e1 _ h1)
   have:=hnew h2
   omega
  ·have:=hi.owns_lt e2 (hold _ _ e2 _ h2)
   have:=hnew h1
   omega
  ·rfl
 ·simp at e
  have:id≠h.length:=by omega
  exact⟨by simp[Ghost.withVec,this];exact (hi.dom id (by omega)).1,fun m=>by simp[Ghost.withVec,this];exact (hi.dom id (by omega)).2 m⟩
 ·obtain⟨id,o,e,ho⟩:=ho
  rcases qbk e with ⟨hlt,e1⟩ | ⟨rfl,rfl⟩
  ·exact .inl ⟨id,o,e1,hold _ _ e1 _ ho⟩
  ·exact .inr (by have:=hnew ho;omega)
theorem qwf (E:Env) (f:FuncId):qrf E f (fun _ _=>none):=by
 intro G h w args vs r h' hr
 cases hr
theorem qn1 {c:AVal} {vs:Array Value} (h:RepL E G [c] vs.toList):∃ x,vs = #[x]∧Rep E G c x:=by
 have hl:=h.len
 obtain⟨l⟩:=vs
 match l,hl with
 | [x],_=>exact⟨x,rfl,h.rep 0 c x rfl rfl⟩
theorem qx8 {k:IntKind} {n:Int} {x:Value} (h:Rep E G (.int k n) x):x=.int k n:=by cases h;rfl
end Go.Abs
set_option linter.unusedSimpArgs false
namespace Go.Abs
open Go.RowKit Go.WideShapes Go.ChangeShapes
open Go.Proofs.YtpchghpipgpkfaaDoor.Rows (uptoBulk uptoBulkAll)
variable {H:Type} {enc:TypeId × Value→H} {P:Program} {w:World} {base:Nat} {spare:Nat→Bool} {held:Bool}
def fieldsOf (P:Program) (t:TypeId):Option (List (TypeId × Nat × Nat)) :=
 match P.underlying t with
 | some (.struct fs)=>some (fs.toList.map fun f=>(f.type,f.offset,P.cellsOf f.type))
 | _=>none
theorem qkr {α β:Type} {R:α→β→Prop}:∀ {xs:List α} {ys:List β},ys.length=xs.length→(∀ (i:Nat) x,xs[i]? = some x→∃ y,ys[i]? = some y∧R x y)→All2 R xs ys
 | [],[],_,_=>.nil
 | x :: xs,y :: ys,hl,h => by
   refine .cons ?_ (qkr (by simpa using hl) fun i x hx=>h (i+1) x (by simpa using hx))
   obtain⟨y',hy,hr⟩:=h 0 x rfl
   simp only[List.getElem?_cons_zero,Option.some.injEq] at hy
   subst hy
   exact hr
theorem qji {t:TypeId} {l:List (TypeId × Nat × Nat)} {fuel:Nat} {cs:List Value} {x:DataW H × List MemPlace} (ht:fieldsOf P t=some l) (h:DataW.trod enc P w base spare held fuel t cs=some x) :
  ∃ (xs:List (DataW H × List MemPlace)) (n:Nat),fuel=n+1∧x.1=.agg (xs.map (·.1))∧All2 (fun f y=>DataW.trod enc P w base spare held n f.1 ((cs.drop f.2.1).take f.2.2)=some y) l xs:=by
 unfold fieldsOf at ht
 split at ht
 ·rename_i fs hu
  obtain⟨xs,n,hn,hx,_,hl,hf⟩:=DataW.trod_struct hu h
  refine⟨xs,n,hn,by rw[hx],?_⟩
  injection ht with ht
  subst ht
  refine qkr (by simpa using hl) fun i p hp=>?_
  rw[List.getElem?_map] at hp
  obtain⟨f,hf1,rfl⟩:=Option.map_eq_some_iff.1 hp
  have h1:fs[i]? = some f:=by simpa using hf1
  have h2:=hf i f h1
  have h3:i<xs.length:=by
   rw[hl]
   exact (Array.getElem?_eq_some_iff.1 h1).1
  refine⟨xs[i],List.getElem?_eq_getElem h3,?_⟩
  dsimp only
  rw[h2]
  exact List.getElem?_eq_getElem h3
 ·cases ht
theorem qnJ {t e:TypeId} {fuel:Nat} {cs:List Value} {x:DataW H × List MemPlace} (ht:P.underlying t=some (.slice e)) (h:DataW.trod enc P w base spare held fuel t cs=some x) :
  x.1=.nil∨∃ (es rs:List (DataW H × List MemPlace)) (n:Nat),fuel=n+1∧x.1=.slice (es.map (·.1)) (rs.map (·.1))∧∀ y∈es,∃ cs,DataW.trod enc P w base spare held n e cs=some y:=by
 rcases DataW.trod_slice ht h with ⟨_,hx⟩ | ⟨a,len,cap,es,rs,n,hn,_,hx,_,_,_,hl,he,_⟩
 ·left
  rw[hx]
 ·right
  refine⟨es,rs,n,hn,by rw[hx],fun y hy=>?_⟩
  obtain⟨i,hi,rfl⟩:=List.getElem_of_mem hy
  have h1:=he i (by omega)
  rw[List.getElem?_eq_getElem hi] at h1
  obtain⟨cs,_,h2⟩:=Option.bind_eq_some_iff.1 h1
  exact⟨cs,h2⟩
theorem qwS (d:DataW H):1≤uptoBulk d:=by
 cases d with
 | lit l=>cases l<;>simp[uptoBulk]
 | _=>simp[uptoBulk]
theorem qwR {d:DataW H} {ds:List (DataW H)} (h:d∈ds):uptoBulk d≤uptoBulkAll ds:=by
 induction ds with
 | nil=>cases h
 | cons e ds ih =>
   rw[uptoBulkAll]
   rcases List.mem_cons.1 h with rfl | h
   ·omega
   ·have:=ih h
    omega
theorem qrm (ds:List (DataW H)):ds.length≤uptoBulkAll ds:=by
 induction ds with
 | nil=>simp
 | cons d ds ih =>
   rw[uptoBulkAll]
   have:=qwS d
   simp only[List.length_cons]
   omega
def Dec (enc:TypeId × Value→H) (P:Program) (w:World) (base:Nat) (spare:Nat→Bool) (held:Bool) (n:Nat) (t:TypeId) {α:Type} (cells:α→List AVal) (Fit:α→Prop) (cnt:α→Nat):Prop :=
 ∀ cs x,DataW.trod enc P w base spare held n t cs=some x→∃ a,qa7 x.1=cells a∧qde x.1=.agg (cells a)∧(uptoBulk x.1≤1048576→Fit a)∧cnt a≤uptoBulk x.1
def qCH (enc:TypeId × Value→H) (P:Program) (w:World) (base:Nat) (spare:Nat→Bool) (held:Bool) (n:Nat) (t:TypeId) {α:Type} (e:α→AVal) (Fit:α→Prop) (cnt:α→Nat):Prop :=
 ∀ cs x,DataW.trod enc P w base spare held n t cs=some x→∃ l:List α,qa7 x.1=[.list (l.map e) none]∧(uptoBulk x.1≤1048576→∀ a∈l,Fit a)∧l.length≤uptoBulk x.1∧(l.map cnt).sum≤uptoBulk x.1
theorem qui {t e:TypeId} {α:Type} {cells:α→List AVal} {Fit:α→Prop} {cnt:α→Nat} (ht:P.underlying t=some (.slice e)) {m:Nat}
  (hd:∀ n,m=n+1→Dec enc P w base spare held n e cells Fit cnt) {en:α→AVal} (hen:∀ a,en a=.agg (cells a)):qCH enc P w base spare held m t en Fit cnt:=by
 intro cs x h
 rcases qnJ ht h with h1 | ⟨es,rs,n,hn,h1,h2⟩
 ·rw[h1]
  exact⟨[],by rw[qa7];rfl,fun _ a ha=>by simp at ha,by simp,by simp⟩
 ·have h3:∃ l:List α,es.map (fun y=>qde y.1)=l.map en∧(uptoBulkAll (es.map (·.1))≤1048576→∀ a∈l,Fit a)∧l.length=es.length∧(l.map cnt).sum≤uptoBulkAll (es.map (·.1)):=by
   clear h1
   induction es with
   | nil=>exact⟨[],rfl,(fun _ a ha=>by cases ha),rfl,by simp⟩
   | cons y es ih =>
     obtain⟨l,g1,g2,g3,g4⟩:=ih fun z hz=>h2 z (by simp[hz])
     obtain⟨cs',hy⟩:=h2 y (by simp)
     obtain⟨a,e1,e2,e3,e4⟩:=hd n hn cs' y hy
     refine⟨a::l,?_,fun hb b hbm=>?_,by simp[g3],?_⟩
     ·simp only[List.map_cons,g1,e2,hen]
     ·simp only[List.map_cons] at hb
      rw[uptoBulkAll] at hb
      rcases List.mem_cons.1 hbm with rfl | hbm
      ·exact e3 (by omega)
      ·exact g2 (by omega) b hbm
     ·simp only[List.map_cons,List.sum_cons]
      rw[uptoBulkAll]
      omega
  obtain⟨l,g1,g2,g3,g4⟩:=h3
  rw[h1]
  have hlen:=qrm (es.map (·.1))
  rw[List.length_map] at hlen
  refine⟨l,?_,fun hb=>g2 ?_,?_,?_⟩
  ·rw[qa7,qgO,List.map_map]
   exact congrArg (fun z=>[AVal.list z none]) g1
  ·rw[uptoBulk] at hb
   omega
  ·rw[uptoBulk]
   omega
  ·rw[uptoBulk]
   omega
theorem qrh {α β:Type} {R:α→β→Prop} {a b:α} {ys:List β} (h:All2 R [a,b] ys):∃ x y,ys=[x,y]∧R a x∧R b y:=by
 cases h with
 | cons h hs => cases hs with
   | cons h2 hs=>cases hs;exact⟨_,_,rfl,h,h2⟩
theorem qmn {α β:Type} {R:α→β→Prop} {a b c:α} {ys:List β} (h:All2 R [a,b,c] ys):∃ x y z,ys=[x,y,z]∧R a x∧R b y∧R c z:=by
 cases h with
 | cons h hs=>obtain⟨y,z,rfl,h1,h2⟩:=qrh hs;exact⟨_,_,_,rfl,h,h1,h2⟩
theorem qtM {α β:Type} {R:α→β→Prop} {a b c d:α} {ys:List β} (h:All2 R [a,b,c,d] ys):∃ x y z u,ys=[x,y,z,u]∧R a x∧R b y∧R c z∧R d u:=by
 cases h with
 | cons h hs=>obtain⟨y,z,u,rfl,h1,h2,h3⟩:=qmn hs;exact⟨_,_,_,_,rfl,h,h1,h2,h3⟩
theorem qoo (ps:List (DataW H)):qa7 (.agg ps)=ps.flatMap qa7:=by rw[qa7,qdN]
theorem qnl (ps:List (DataW H)):qde (.agg ps)=.agg (ps.flatMap qa7):=by unfold qde;simp only[qdN]
end Go.Abs
