/-
  From the arguments of a law, as the row reads them, to abstract values; and back. Conditions: none.
-/
import Derived.Test.YtpchghpipgpkfaaDoorAbsN
import Derived.Test.YtpchghpipgpkfaaDoorRows
import Derived.Below
import Derived.ChangeSame
import Derived.ChangeArms
import Derived.OpenShut
import Derived.RowKit
set_option linter.unusedVariables false
set_option linter.unusedSimpArgs false
namespace Go.Abs
open Go.RowKit Go.WideShapes Go.ChangeShapes
variable {H:Type} {enc:TypeId × Value→H} {P:Program} {w:World}
theorem qle {α β:Type} {f:α→Option β}:∀ {xs:List α} {ys:List β},xs.mapM f=some ys→All2 (fun x y=>f x=some y) xs ys
 | [],ys,h => by
   simp only[List.mapM_nil,Option.pure_def,Option.some.injEq] at h
   subst h
   exact .nil
 | x :: xs,ys,h => by
   rw[List.mapM_cons] at h
   cases hx:f x with
   | none=>rw[hx] at h;cases h
   | some y =>
     cases hxs:xs.mapM f with
     | none=>rw[hx,hxs] at h;cases h
     | some zs =>
       rw[hx,hxs] at h
       simp only[Option.pure_def,Option.bind_eq_bind,Option.bind_some,Option.some.injEq] at h
       subst h
       exact .cons hx (qle hxs)
theorem qor {α β:Type} {f:α→Option β} {xs:List α} {ys:List β} (h:All2 (fun x y=>f x=some y) xs ys):xs.mapM f=some ys:=by
 induction h with
 | nil=>rfl
 | cons h _ ih=>rw[List.mapM_cons,h,ih];rfl
mutual
def qa7:DataW H→List AVal
 | .lit (.bool b)=>[.bool b]
 | .lit (.int k n)=>[.int k n]
 | .lit (.string bs)=>[.str ⟨bs.toArray⟩]
 | .nil=>[.list [] none]
 | .slice es _=>[.list (qmy es) none]
 | .agg ps=>qhD ps
 | _=>[.junk]
def qhD:List (DataW H)→List AVal
 | []=>[]
 | p::ps=>qa7 p++qhD ps
def qmy:List (DataW H)→List AVal
 | []=>[]
 | .agg ps::es=>.agg (qhD ps)::qmy es
 | e::es=>((qa7 e).head?).getD .junk::qmy es
end
def qde (d:DataW H):AVal:=match d with | .agg ps=>.agg (qhD ps) | e=>((qa7 e).head?).getD .junk
theorem qgO:∀ es:List (DataW H),qmy es=es.map qde
 | []=>by rw[qmy];rfl
 | e :: es => by
   cases e<;>rw[qmy,qgO es]<;>first | rfl | (intro ps hps;cases hps)
theorem qdN:∀ ps:List (DataW H),qhD ps=ps.flatMap qa7
 | []=>by rw[qhD];rfl
 | p::ps=>by rw[qhD,qdN ps];rfl
theorem qon (d:DataW H) (h:∀ c∈qa7 d,leaf c=true) (hl:∀ ps,d≠.agg ps→(qa7 d).length=1):acells (qde d)=qa7 d:=by
 cases d with
 | agg ps=>rw[qa7];rfl
 | _ =>
   have h1:=hl [] (fun hx=>by cases hx)
   unfold qde
   simp only[]
   revert h h1
   generalize qa7 _=l
   intro h h1
   match l,h1 with
   | [c],_ =>
     have:=h c (by simp)
     cases c<;>first | rfl | (simp[leaf] at this)
def qwg (P:Program):Nat→List Field→Nat→Bool
 | o,[],n=>o==n
 | o,f::fs,n=>f.offset==o && qwg P (o+P.cellsOf f.type) fs n
def qr8 (P:Program) (oks:List TypeId) (t:TypeId):Bool :=
 match P.underlying t with
 | some .bool | some (.int _) | some .string=>true
 | some (.slice e)=>oks.contains e && decide (0<P.cellsOf e)
 | some (.struct fs)=>fs.toList.all (fun f=>oks.contains f.type) && qwg P 0 fs.toList (P.cellsOf t)
 | _=>false
def qmZ (P:Program) (oks:List TypeId):Bool:=oks.all (qr8 P oks)
def qcB (w:World):Ghost:={ fix:=fun b o=>match w.cell? ⟨b,o,none⟩ with | some v=>if v.oneCell'=true then some v else none | none=>none,blk:=fun _=>none,tl:=fun _ _=>none }
theorem qoL {b o:Nat} {v:Value} (h:w.cell? ⟨b,o,none⟩=some v) (h1:v.oneCell'=true):(qcB w).fix b o=some v:=by
 simp only[qcB,h,if_pos h1]
theorem quK (E:Env) (w:World) (ht:TabFact E (qcB w) w):Inv E (qcB w) [] w:=by
 refine⟨fun b o v e=>?_,fun b o v e=>?_,fun id o e=>by simp at e,fun id o id' o' b e=>by simp at e,fun id _=>⟨rfl,fun _=>rfl⟩,ht⟩
 ·simp only[qcB] at e
  split at e
  ·rename_i v' hv
   split at e
   ·injection e with e
    rw[← e]
    exact hv
   ·cases e
  ·cases e
 ·simp only[qcB] at e
  split at e
  ·split at e
   ·rename_i h1
    injection e with e
    rw[← e]
    exact h1
   ·cases e
  ·cases e
theorem cells?_get {base n:Nat} {a:Addr} {vs:List Value} (h:w.cells? base a n=some vs):vs.length=n∧∀ (i:Nat) (v:Value),vs[i]? = some v→w.cell? (a.add i)=some v:=by
 unfold World.cells? at h
 split at h
 ·have h1:=qle h
  have h2:=h1.length
  rw[List.length_range] at h2
  refine⟨h2.symm,fun i v hv=>?_⟩
  have:∀ {xs:List Nat} {ys:List Value},All2 (fun x y=>w.cell? (a.add x)=some y) xs ys→∀ (i:Nat) (v:Value),ys[i]? = some v→∃ x,xs[i]? = some x∧w.cell? (a.add x)=some v:=by
   intro xs ys h
   induction h with
   | nil=>intro i v hv;simp at hv
   | cons h _ ih =>
     intro i v hv
     cases i with
     | zero=>simp at hv;rw[← hv];exact⟨_,rfl,h⟩
     | succ i =>
       obtain⟨x,hx,hc⟩:=ih i v (by simpa using hv)
       exact⟨x,by simpa using hx,hc⟩
  obtain⟨x,hx,hc⟩:=this h1 i v hv
  have hi:i<n:=by
   have:=(List.getElem?_eq_some_iff.1 hx).1
   simpa using this
  rw[List.getElem?_range hi] at hx
  injection hx with hx
  rw[hx]
  exact hc
 ·cases h
theorem cell?_spot {a:Addr} {v:Value} (h:w.cell? a=some v):a.spot=none:=by
 unfold World.cell? at h
 split at h
 ·split at h
  ·cases h
  ·rename_i hs
   simpa using hs
 ·cases h
structure Good (E:Env) (w:World) (d:DataW H) (cs:List Value):Prop where
 rep:RepL E (qcB w) (qa7 d) cs
 leafs:∀ c∈qa7 d,leaf c=true
 ones:∀ v∈cs,v.oneCell'=true
 one:(∀ ps,d≠.agg ps)→(qa7 d).length=1
theorem Good.acells {E:Env} {d:DataW H} {cs:List Value} (h:Good E w d cs):acells (qde d)=qa7 d:=by
 cases d with
 | agg ps=>rw[qa7];rfl
 | _=>exact qon _ h.leafs fun ps hx=>h.one fun ps hx=>by cases hx
theorem quD {n o k:Nat} (cs:List Value):(cs.drop o).take k++cs.drop (o+k)=cs.drop o:=by
 rw[← List.drop_drop,List.take_append_drop]
theorem qjy {α β:Type} {f g:α→List β}:∀ {l:List α},(∀ x∈l,f x=g x)→l.flatMap f=l.flatMap g
 | [],_=>rfl
 | x::l,h=>by rw[List.flatMap_cons,List.flatMap_cons,h x (by simp),qjy fun y hy=>h y (by simp[hy])]
theorem qmE {E:Env} (b o k:Nat) (f:List Value→Option (DataW H × List MemPlace)) (hf:∀ vs d ps,f vs=some (d,ps)→Good E w d vs) :
  ∀ (xs:List (DataW H × List MemPlace)) (j:Nat),(∀ i,i<xs.length→(w.cells? 0 ((⟨b,o,none⟩:Addr).add ((j+i)*k)) k).bind f=xs[i]?) →
   ∃ vs:List Value,RepL E (qcB w) ((xs.map (·.1)).flatMap qa7) vs∧(∀ (i:Nat) (v:Value),vs[i]? = some v→w.cell? ⟨b,o+j*k+i,none⟩=some v∧v.oneCell'=true)∧∀ x∈xs,(acells (qde x.1)).length=k∧acells (qde x.1)=qa7 x.1
 | [],j,_=>⟨[],.nil,fun i v h=>by simp at h,fun x hx=>by cases hx⟩
 | x :: xs,j,h => by
   have h0:=h 0 (by simp)
   rw[Nat.add_zero,List.getElem?_cons_zero] at h0
   obtain⟨vs1,h1,h2⟩:=Option.bind_eq_some_iff.1 h0
   obtain⟨d,ps⟩:=x
   have hg:=hf vs1 d ps h2
   obtain⟨hl,hc⟩:=cells?_get h1
   obtain⟨vs2,r2,c2,e2⟩:=qmE b o k f hf xs (j+1) fun i hi=>by
    have:=h (i+1) (by simpa using hi)
    rw[List.getElem?_cons_succ] at this
    rw[show j+1+i=j+(i+1) by omega]
    exact this
   refine⟨vs1++vs2,?_,fun i v hv=>?_,fun x hx=>?_⟩
   ·rw[List.map_cons,List.flatMap_cons]
    exact hg.rep.append r2
   ·by_cases hi:i<k
    ·rw[List.getElem?_append_left (by omega)] at hv
     have h3:=hc i v hv
     rw[qcr,qcr] at h3
     exact⟨h3,hg.ones v (List.mem_of_getElem? hv)⟩
    ·rw[List.getElem?_append_right (by omega),hl] at hv
     have h3:=c2 (i-k) v hv
     rw[show o+j*k+i=o+(j+1)*k+(i-k) by rw[Nat.add_mul];omega]
     exact h3
   ·rcases List.mem_cons.1 hx with rfl | hx
    ·rw[hg.acells]
     exact⟨by rw[← hg.rep.len];exact hl,rfl⟩
    ·exact e2 x hx
theorem qnc {E:Env} (fuel:Nat) (oks:List TypeId) (hf:∀ t cs d ps,t∈oks→DataW.trod enc P w 0 (fun _=>true) true fuel t cs=some (d,ps)→Good E w d cs) (cs:List Value) :
  ∀ (fs:List Field) (xs:List (DataW H × List MemPlace)) (o:Nat),(∀ f∈fs,f.type∈oks)→qwg P o fs cs.length=true→xs.length=fs.length →
   (∀ (i:Nat) (f:Field),fs[i]? = some f→DataW.trod enc P w 0 (fun _=>true) true fuel f.type ((cs.drop f.offset).take (P.cellsOf f.type))=xs[i]?) →
   RepL E (qcB w) ((xs.map (·.1)).flatMap qa7) (cs.drop o)∧(∀ x∈xs,∀ c∈qa7 x.1,leaf c=true)∧∀ v∈cs.drop o,v.oneCell'=true
 | [],xs,o,_,ht,hl,_ => by
   have:xs=[]:=List.eq_nil_of_length_eq_zero hl
   subst this
   simp only[qwg,beq_iff_eq] at ht
   subst ht
   rw[List.drop_length]
   exact⟨.nil,(fun x hx=>by cases hx),(fun v hv=>by cases hv)⟩
 | f::fs,[],o,_,_,hl,_=>by cases hl
 | f :: fs,x :: xs,o,hm,ht,hl,h => by
   simp only[qwg,Bool.and_eq_true,beq_iff_eq] at ht
   obtain⟨rfl,ht⟩:=ht
   obtain⟨d,ps⟩:=x
   have hg:=hf f.type _ d ps (hm f (by simp)) (h 0 f rfl)
   obtain⟨r1,r2,r3⟩:=qnc fuel oks hf cs fs xs (f.offset+P.cellsOf f.type) (fun g hg=>hm g (by simp[hg])) ht (by simpa using hl) fun i g hg=>by
    have:=h (i+1) g (by simpa using hg)
    rwa [List.getElem?_cons_succ] at this
   rw[List.map_cons,List.flatMap_cons,← quD (n:=0) (o:=f.offset) (k:=P.cellsOf f.type) cs]
   refine⟨hg.rep.append r1,fun x hx=>?_,fun v hv=>?_⟩
   ·rcases List.mem_cons.1 hx with rfl | hx
    ·exact hg.leafs
    ·exact r2 x hx
   ·rcases List.mem_append.1 hv with hv | hv
    ·exact hg.ones v hv
    ·exact r3 v hv
theorem qzn (E:Env) (oks:List TypeId) (hp:qmZ P oks=true):∀ (fuel:Nat) (t:TypeId) (cs:List Value) (d:DataW H) (ps:List MemPlace),t∈oks→DataW.trod enc P w 0 (fun _=>true) true fuel t cs=some (d,ps)→Good E w d cs:=by
 intro fuel
 induction fuel with
 | zero=>intro t cs d ps _ h;cases h
 | succ fuel ih =>
   intro t cs d ps hm h
   have hpt:=List.all_eq_true.1 hp t hm
   unfold qr8 at hpt
   split at hpt
   ·rename_i hu
    obtain⟨b,rfl,hx⟩:=DataW.trod_bool hu h
    injection hx with hx _
    subst hx
    exact⟨by rw[qa7];exact .one (.bool b),(fun c hc=>by rw[qa7] at hc;rw[List.mem_singleton.1 hc];rfl),(fun v hv=>by rw[List.mem_singleton.1 hv];rfl),fun _=>by rw[qa7];rfl⟩
   ·rename_i k hu
    obtain⟨m,rfl,hx,_⟩:=DataW.trod_int hu h
    injection hx with hx _
    subst hx
    exact⟨by rw[qa7];exact .one (.int k m),(fun c hc=>by rw[qa7] at hc;rw[List.mem_singleton.1 hc];rfl),(fun v hv=>by rw[List.mem_singleton.1 hv];rfl),fun _=>by rw[qa7];rfl⟩
   ·rename_i hu
    obtain⟨s,rfl,hx,_⟩:=DataW.trod_string hu h
    injection hx with hx _
    subst hx
    refine⟨?_,(fun c hc=>by rw[qa7] at hc;rw[List.mem_singleton.1 hc];rfl),(fun v hv=>by rw[List.mem_singleton.1 hv];rfl),fun _=>by rw[qa7];rfl⟩
    rw[qa7]
    have:(⟨s.data.toList.toArray⟩:ByteArray)=s:=by cases s;simp
    rw[this]
    exact .one (.str s)
   ·rename_i e hu
    rw[Bool.and_eq_true,decide_eq_true_eq] at hpt
    obtain⟨he,hk⟩:=hpt
    have he':e∈oks:=by simpa using he
    rcases DataW.trod_slice hu h with ⟨rfl,hx⟩ | ⟨a,len,cap,elems,rest,n,hn,rfl,hx,_,hlc,_,hel,hall,_⟩
    ·injection hx with hx _
     subst hx
     refine⟨?_,(fun c hc=>by rw[qa7] at hc;rw[List.mem_singleton.1 hc];rfl),(fun v hv=>by rw[List.mem_singleton.1 hv];rfl),fun _=>by rw[qa7];rfl⟩
     rw[qa7]
     exact .one (.list 0 [] rfl (Nat.le_refl _) (fun x hx=>by simp at hx) (fun hx=>absurd rfl hx) rfl (fun i c v e=>by simp at e) trivial)
    ·injection hx with hx _
     subst hx
     have hfn:n=fuel:=by omega
     subst hfn
     refine⟨?_,(fun c hc=>by rw[qa7] at hc;rw[List.mem_singleton.1 hc];rfl),(fun v hv=>by rw[List.mem_singleton.1 hv];rfl),fun _=>by rw[qa7];rfl⟩
     rw[qa7,qgO,List.map_map]
     refine .one ?_
     cases elems with
     | nil =>
       have hl0:len=0:=by rw[← hel];rfl
       subst hl0
       exact .list 0 [] rfl hlc (fun x hx=>by simp at hx) (fun hx=>absurd rfl hx) rfl (fun i c v e=>by simp at e) trivial
     | cons x0 xs0 =>
       have hspot:a.spot=none:=by
        have h0:=hall 0 (by rw[← hel];simp)
        rw[List.getElem?_cons_zero] at h0
        obtain⟨vs1,g1,g2⟩:=Option.bind_eq_some_iff.1 h0
        obtain⟨hl,hc⟩:=cells?_get g1
        have hv:vs1[0]? = some vs1[0]:=List.getElem?_eq_getElem (by omega)
        have:=cell?_spot (hc 0 _ hv)
        simpa[Addr.add] using this
       obtain⟨b,o,sp⟩:=a
       dsimp only at hspot
       subst hspot
       generalize hxs:x0::xs0=xs at *
       obtain⟨vs,r1,r2,r3⟩:=qmE (E:=E) b o (P.cellsOf e) _ (fun vs d ps hh=>ih e vs d ps he' hh) xs 0 fun i hi=>by
        rw[Nat.zero_add]
        exact hall i (by omega)
       have hflat:(xs.map (fun x=>qde x.1)).flatMap acells=(xs.map (·.1)).flatMap qa7:=by
        rw[List.flatMap_map,List.flatMap_map]
        exact qjy fun x hx=>(r3 x hx).2
       refine .list (P.cellsOf e) vs (by simpa using hel.symm) hlc (fun x hx=>?_) (fun _=>⟨b,o,rfl,fun i v hv=>?_⟩) ?_ ?_ trivial
       ·obtain⟨y,hy,rfl⟩:=List.mem_map.1 hx
        exact (r3 y hy).1
       ·have:=r2 i v hv
        rw[Nat.zero_mul,Nat.add_zero] at this
        exact qoL this.1 this.2
       ·rw[show (xs.map (qde ∘ fun x=>x.1))=xs.map (fun x=>qde x.1) from rfl,hflat]
        exact r1.len
       ·rw[show (xs.map (qde ∘ fun x=>x.1))=xs.map (fun x=>qde x.1) from rfl,hflat]
        exact r1.rep
   ·rename_i fs hu
    rw[Bool.and_eq_true,List.all_eq_true] at hpt
    obtain⟨hfs,htl⟩:=hpt
    obtain⟨xs,n,hn,hx,hcl,hxl,hall⟩:=DataW.trod_struct hu h
    have hfn:n=fuel:=by omega
    subst hfn
    injection hx with hx _
    subst hx
    rw[← hcl] at htl
    obtain⟨r1,r2,r3⟩:=qnc (E:=E) n oks (fun t cs d ps hm hh=>ih t cs d ps hm hh) cs fs.toList xs 0 (fun f hf=>by simpa using hfs f hf) htl (by simpa using hxl) fun i f hf=>hall i f (by simpa using hf)
    rw[List.drop_zero] at r1 r3
    refine⟨by rw[qa7,qdN];exact r1,fun c hc=>?_,r3,fun hx=>absurd rfl (hx _)⟩
    rw[qa7,qdN] at hc
    obtain⟨d,hd,hc⟩:=List.mem_flatMap.1 hc
    obtain⟨x,hx,rfl⟩:=List.mem_map.1 hd
    exact r2 x hx c hc
   ·cases hpt
theorem cell?_keep {w w':World} (hk:∀ b,b<w.heap.size→w'.heap[b]? = w.heap[b]?) {a:Addr} {v:Value} (h:w.cell? a=some v):w'.cell? a=some v:=by
 have hb:a.block<w.heap.size:=by
  unfold World.cell? at h
  split at h
  ·rename_i hx
   exact (Array.getElem?_eq_some_iff.1 hx).1
  ·cases h
 unfold World.cell? at h ⊢
 rw[hk a.block hb]
 exact h
theorem cells?_keep {w w':World} (hk:∀ b,b<w.heap.size→w'.heap[b]? = w.heap[b]?) {base n:Nat} {a:Addr} {vs:List Value} (h:w.cells? base a n=some vs):w'.cells? base a n=some vs:=by
 unfold World.cells? at h ⊢
 split
 ·rename_i hb
  rw[if_pos hb] at h
  exact qor ((qle h).imp fun x _ y _ hxy=>cell?_keep hk hxy)
 ·rename_i hb
  rw[if_neg hb] at h
  cases h
theorem qmO {α:Type} {f:Nat→Option α}:∀ {n:Nat} {xs:List α},xs.length=n→(∀ i,i<n→f i=xs[i]?)→(List.range n).mapM f=some xs:=by
 intro n xs hl h
 refine qor ?_
 have:∀ (j m:Nat) (ys:List α),ys.length=m→(∀ i,i<m→f (j+i)=ys[i]?)→All2 (fun x y=>f x=some y) (List.range' j m) ys:=by
  intro j m
  induction m generalizing j with
  | zero =>
    intro ys hl _
    rw[List.eq_nil_of_length_eq_zero hl]
    exact .nil
  | succ m ih =>
    intro ys hl h
    cases ys with
    | nil=>cases hl
    | cons y ys =>
      rw[List.range'_succ]
      refine .cons (by simpa using h 0 (by omega)) (ih (j+1) ys (by simpa using hl) fun i hi=>?_)
      have:=h (i+1) (by omega)
      rw[List.getElem?_cons_succ] at this
      rw[show j+1+i=j+(i+1) by omega]
      exact this
 rw[List.range_eq_range']
 exact this 0 n xs hl fun i hi=>by rw[Nat.zero_add];exact h i hi
theorem qo9 {α β:Type} {f:α→Option β}:∀ {xs:List α} {ys:List β},ys.length=xs.length→(∀ (i:Nat) (x:α),xs[i]? = some x→f x=ys[i]?)→xs.mapM f=some ys
 | [],ys,hl,_=>by rw[List.eq_nil_of_length_eq_zero hl];rfl
 | x::xs,[],hl,_=>by cases hl
 | x :: xs,y :: ys,hl,h => by
   have h1:=h 0 x rfl
   rw[List.getElem?_cons_zero] at h1
   rw[List.mapM_cons,h1,qo9 (ys:=ys) (by simpa using hl) fun i z hz=>by simpa using h (i+1) z (by simpa using hz)]
   rfl
theorem qwj {w w':World} (hk:∀ b,b<w.heap.size→w'.heap[b]? = w.heap[b]?) (oks:List TypeId) (hp:qmZ P oks=true) (sp:Nat→Bool):∀ (fuel:Nat) (t:TypeId) (cs:List Value) (x:DataW H × List MemPlace),t∈oks →
  DataW.trod enc P w 0 (fun _=>true) true fuel t cs=some x→(∀ p∈x.2,sp p.block=true)→DataW.trod enc P w' 0 sp true fuel t cs=some x:=by
 intro fuel
 induction fuel with
 | zero=>intro t cs x _ h;cases h
 | succ fuel ih =>
   intro t cs x hm h hs
   have hpt:=List.all_eq_true.1 hp t hm
   unfold qr8 at hpt
   split at hpt
   ·rename_i hu
    obtain⟨b,rfl,rfl⟩:=DataW.trod_bool hu h
    simp[DataW.trod,hu]
   ·rename_i k hu
    obtain⟨m,rfl,rfl,hw⟩:=DataW.trod_int hu h
    simp[DataW.trod,hu,hw]
   ·rename_i hu
    obtain⟨s,rfl,rfl,hw⟩:=DataW.trod_string hu h
    simp[DataW.trod,hu,hw]
   ·rename_i e hu
    rw[Bool.and_eq_true,decide_eq_true_eq] at hpt
    obtain⟨he,hkk⟩:=hpt
    have he':e∈oks:=by simpa using he
    rcases DataW.trod_slice hu h with ⟨rfl,rfl⟩ | ⟨a,len,cap,elems,rest,n,hn,rfl,rfl,hb,hlc,hcm,hel,hall,hsp,_⟩
    ·simp[DataW.trod,hu]
    ·have hfn:n=fuel:=by omega
     subst hfn
     obtain⟨hrl,hrest⟩:=hsp rfl
     have hmem:∀ {y:DataW H × List MemPlace},y∈elems++rest→∀ p∈y.2,sp p.block=true:=fun {y} hy p hpp=>hs p (by
      rw[List.mem_append,List.mem_flatMap]
      exact .inr ⟨y,hy,hpp⟩)
     have h1:(List.range len).mapM (fun i=>(w'.cells? 0 (a.add (i*P.cellsOf e)) (P.cellsOf e)).bind (DataW.trod enc P w' 0 sp true n e))=some elems:=qmO hel fun i hi=>by
      have h2:=hall i hi
      have hlt:i<elems.length:=by omega
      rw[List.getElem?_eq_getElem hlt] at h2 ⊢
      obtain⟨vs,g1,g2⟩:=Option.bind_eq_some_iff.1 h2
      rw[cells?_keep hk g1]
      exact ih e vs _ he' g2 (hmem (List.mem_append_left _ (List.getElem_mem hlt)))
     have h2:(if sp a.block=true then (List.range (cap-len)).mapM (fun j=>(w'.cells? 0 (a.add ((len+j)*P.cellsOf e)) (P.cellsOf e)).bind (DataW.trod enc P w' 0 sp true n e)) else some [])=some rest:=by
      by_cases hc:cap-len=0
      ·have:rest=[]:=List.eq_nil_of_length_eq_zero (by omega)
       subst this
       rw[hc]
       split<;>rfl
      ·have hblk:sp a.block=true:=hs (.cell a.block (a.off+0)) (by
        rw[List.mem_append]
        left
        unfold MemPlace.row
        refine List.mem_map.2 ⟨0,List.mem_range.2 ?_,rfl⟩
        exact Nat.mul_pos (by omega) hkk)
       rw[if_pos hblk]
       refine qmO hrl fun i hi=>?_
       have h2:=hrest i hi
       have hlt:i<rest.length:=by omega
       rw[List.getElem?_eq_getElem hlt] at h2 ⊢
       obtain⟨vs,g1,g2⟩:=Option.bind_eq_some_iff.1 h2
       rw[cells?_keep hk g1]
       exact ih e vs _ he' g2 (hmem (List.mem_append_right _ (List.getElem_mem hlt)))
     unfold DataW.trod
     rw[hu]
     dsimp only
     rw[if_pos ⟨hb,hlc,hcm⟩,h1]
     dsimp only[Option.bind_some]
     rw[h2]
     rfl
   ·rename_i fs hu
    rw[Bool.and_eq_true,List.all_eq_true] at hpt
    obtain⟨hfs,htl⟩:=hpt
    obtain⟨xs,n,hn,rfl,hcl,hxl,hall⟩:=DataW.trod_struct hu h
    have hfn:n=fuel:=by omega
    subst hfn
    refine trod_struct_mk hu hcl (qo9 (by simpa using hxl) fun i f hf=>?_)
    have h1:=hall i f (by simpa using hf)
    have hlt:i<xs.length:=by
     have:=(List.getElem?_eq_some_iff.1 hf).1
     simp at this
     omega
    rw[List.getElem?_eq_getElem hlt] at h1 ⊢
    exact ih f.type _ _ (by simpa using hfs f (List.mem_of_getElem? hf)) h1 fun p hpp=>hs p (List.mem_flatMap.2 ⟨_,List.getElem_mem hlt,hpp⟩)
   ·cases hpt
theorem qjM {w w':World} (hk:∀ b,b<w.heap.size→w'.heap[b]? = w.heap[b]?) (oks:List TypeId) (hp:qmZ P oks=true) (sp:Nat→Bool):∀ (ts:List TypeId) (vs:List Value) (ds:List (DataW H)) (ps:List MemPlace),(∀ t∈ts,t∈oks) →
  DataW.TrodAll enc P w 0 (fun _=>true) true ts vs ds ps→(∀ p∈ps,sp p.block=true)→DataW.TrodAll enc P w' 0 sp true ts vs ds ps
 | [],vs,ds,ps,_,h,_ => by
   obtain⟨rfl,rfl,rfl⟩:=trodAll_nil h
   exact trodAll_mk0
 | t :: ts,vs,ds,ps,ht,h,hs => by
   obtain⟨v0,vs0,d0,ds0,p0,q0,rfl,rfl,rfl,⟨fuel,h0⟩,r0⟩:=trodAll_cons h
   exact trodAll_cons_mk ⟨fuel,qwj hk oks hp sp fuel t _ _ (ht t (by simp)) h0 fun p hpp=>hs p (by simp at hpp ⊢;exact .inl hpp)⟩ (qjM hk oks hp sp ts vs0 ds0 q0 (fun t h=>ht t (by simp[h])) r0 fun p hpp=>hs p (by simp[hpp]))
theorem qyT {E:Env} {r:Reach} {base:Nat} {t:TypeId} {v:Value} {d:DataW H} {ps:List MemPlace} (oks:List TypeId) (hp:qmZ P oks=true) (ht:t∈oks) (hv:Value.okWide P w r base t v) (h:DataW.Trod enc P w 0 (fun _=>true) true t v d ps) :
  Rep E (qcB w) (qde d) v:=by
 obtain⟨fuel,h⟩:=h
 have hg:=qzn E oks hp fuel t _ d ps ht h
 have hpt:=List.all_eq_true.1 hp t ht
 unfold qr8 at hpt
 have hone:(∀ ps,d≠.agg ps)→v.cells = #[v]→Rep E (qcB w) (qde d) v:=fun h1 hvc=>by
  have h2:=hg.one h1
  have h3:=hg.rep
  rw[← hg.acells] at h2 h3
  rw[hvc] at h3
  have hac:acells (qde d)=[qde d]:=by
   unfold acells at h2 ⊢
   split
   ·rename_i cs hcs
    exfalso
    have h4:=hg.leafs
    cases d with
    | agg ps=>exact h1 ps rfl
    | _ =>
      have h5:=hg.one h1
      unfold qde at hcs
      simp only[] at hcs
      revert h4 h5 hcs
      generalize qa7 _=l
      intro hcs h4 h5
      match l,h5 with
      | [c],_ =>
        have:=h4 c (by simp)
        simp at hcs
        rw[hcs] at this
        simp[leaf] at this
   ·rfl
  rw[hac] at h3
  exact h3.rep 0 _ v rfl rfl
 have hleaf:(∀ fs,P.underlying t≠some (.struct fs))→Rep E (qcB w) (qde d) v:=fun hns=>by
  have hd:∀ ps,d≠.agg ps:=by
   intro qs hq
   subst hq
   cases fuel with
   | zero=>cases h
   | succ fuel =>
     split at hpt
     ·rename_i hu
      obtain⟨b,_,hx⟩:=DataW.trod_bool hu h
      injection hx with hx _
      cases hx
     ·rename_i k hu
      obtain⟨b,_,hx,_⟩:=DataW.trod_int hu h
      injection hx with hx _
      cases hx
     ·rename_i hu
      obtain⟨b,_,hx,_⟩:=DataW.trod_string hu h
      injection hx with hx _
      cases hx
     ·rename_i e hu
      rcases DataW.trod_slice hu h with ⟨_,hx⟩ | ⟨a,len,cap,elems,rest,n,hn,_,hx,_⟩
      ·injection hx with hx _
       cases hx
      ·injection hx with hx _
       cases hx
     ·rename_i fs hu
      exact hns fs hu
     ·cases hpt
  refine hone hd ?_
  have hl:=hg.rep.len
  rw[hg.one hd] at hl
  unfold Value.okWide at hv
  split at hv
  ·rename_i fs hu
   exact absurd hu (hns fs)
  ·rename_i k e hu
   rw[hu] at hpt
   cases hpt
  ·cases v with
   | agg cs =>
     exfalso
     unfold Cell.okWide at hv
     split at hpt
     all_goals first
      | (rename_i hu;rw[hu] at hv;simp[Cell.ok] at hv;done)
      | (rename_i k hu;rw[hu] at hv;simp[Cell.ok] at hv;done)
      | (rename_i fs hu;exact hns fs hu)
      | (cases hpt;done)
   | _=>rfl
 split at hpt
 ·rename_i hu
  exact hleaf fun fs hx=>by rw[hu] at hx;cases hx
 ·rename_i k hu
  exact hleaf fun fs hx=>by rw[hu] at hx;cases hx
 ·rename_i hu
  exact hleaf fun fs hx=>by rw[hu] at hx;cases hx
 ·rename_i e hu
  exact hleaf fun fs hx=>by rw[hu] at hx;cases hx
 ·rename_i fs hu
  unfold Value.okWide at hv
  rw[hu] at hv
  obtain⟨cs,rfl,_⟩:=hv
  obtain⟨xs,n,hn,hx,_⟩:=DataW.trod_struct hu h
  injection hx with hx _
  have h3:=hg.rep
  rw[← hg.acells] at h3
  subst hx
  unfold qde at h3 ⊢
  simp only[acells,Value.cells] at h3 ⊢
  exact .agg (by simpa using h3.len) fun i c v e e'=>h3.rep i c v e (by simpa using e')
 ·cases hpt
theorem qrk {E:Env} {r:Reach} {base:Nat} (oks:List TypeId) (hp:qmZ P oks=true):∀ (ts:List TypeId) (vs:List Value) (ds:List (DataW H)) (ps:List MemPlace),(∀ t∈ts,t∈oks) →
  (∀ (j:Nat) t v,ts[j]? = some t→vs[j]? = some v→Value.okWide P w r base t v)→DataW.TrodAll enc P w 0 (fun _=>true) true ts vs ds ps→RepL E (qcB w) (ds.map qde) vs
 | [],vs,ds,ps,_,_,h => by
   obtain⟨rfl,rfl,rfl⟩:=trodAll_nil h
   exact .nil
 | t :: ts,vs,ds,ps,ht,hv,h => by
   obtain⟨v0,vs0,d0,ds0,p0,q0,rfl,rfl,rfl,h0,r0⟩:=trodAll_cons h
   exact .cons (qyT oks hp (ht t (by simp)) (hv 0 t v0 rfl rfl) h0) (qrk oks hp ts vs0 ds0 q0 (fun t h=>ht t (by simp[h])) (fun j t v h1 h2=>hv (j+1) t v (by simpa using h1) (by simpa using h2)) r0)
theorem qnX {f:Func} {s:ChangeSpec} {apart fresh handsOn again:Bool} {W W':World} {args:Array Value} {v:Value} {ds gs:List (DataW H)} {before pa pv:List MemPlace}
  (hW:DataW.Whole enc P f.params.toList s.vars apart W args.toList ds gs before)
  (hres:∀ (b:Nat) (sp:Nat→Bool) (hd:Bool),DataW.TrodAll enc P W' b sp hd f.resultTypes.toList (v.resultList f.resultTypes.size) (s.fn H (ds++gs)).results [])
  (hargs:∀ sp:Nat→Bool,(∀ p∈before,sp p.block=true)→DataW.TrodAll enc P W' 0 sp true f.params.toList args.toList (s.fn H (ds++gs)).args pa)
  (hvars:∀ sp:Nat→Bool,(∀ p∈before,sp p.block=true)→DataW.TrodVars enc P W' sp s.vars (s.fn H (ds++gs)).vars pv)
  (hps:before=pa++pv) (hb:Below W.heap.size W W')
  (hok:∀ (j:Nat) (t:TypeId) (r:Value),f.resultTypes[j]? = some t→(v.resultList f.resultTypes.size)[j]? = some r→Value.okWide P W' .any 0 t r) :
  s.post enc P f apart fresh handsOn again W args v W':=by
 have hlt:∀ p∈before,p.block<W.heap.size:=fun p hp=>hW.lt p hp
 have hold:∀ p∈before,(fun b=>decide (b<W.heap.size)) p.block=true:=fun p hp=>by simpa using hlt p hp
 refine⟨ds,gs,before,[],pa,pv,hW,hres _ _ _,hargs _ hold,hvars _ hold,World.keptBut_mono (fun p hp=>⟨hp,?_⟩) (hb.frame (· ∈ before)),fun _=>?_⟩
 ·rw[hps,List.mem_append] at hp
  exact Or.inr hp
 ·obtain⟨_,_,_,_,_,hz,hn⟩:=hW
  refine⟨hok,_,_,([]++pa)++pv,⟨[]++pa,pv,trodAll_append (hargs _ (fun _ _=>rfl)) (hres _ _ _),hvars _ (fun _ _=>rfl),rfl,?_,?_⟩,?_⟩
  ·intro b off hp
   have hin:MemPlace.cell b off∈before:=by rw[hps];simpa using hp
   rw[hb.frozen (hlt _ hin)]
   exact hz b off hin
  ·intro ha
   have:=hn ha
   rw[hps] at this
   simpa using this
  ·intro p hp _
   rw[hps]
   simpa using hp
theorem qo4 {E:Env} (hE:EnvOk E) {call:CallT} (hc:qbX E call) {f:FuncId} {k:Nat} (hk:E.fm f=some k) {fn:Func} (oks:List TypeId) (hp:qmZ E.P oks=true) (hts:∀ t∈fn.params.toList,t∈oks)
  {tb:TypeId} (hrt:fn.resultTypes = #[tb]) (hb:E.P.underlying tb=some .bool) {s:ChangeSpec} (hsv:s.vars=[]) {W:World} {args:Array Value} {ds gs:List (DataW H)} {before:List MemPlace} {r:Reach} {base:Nat}
  (hval:∀ (j:Nat) t v,fn.params[j]? = some t→args[j]? = some v→Value.okWide E.P W r base t v) (hW:DataW.Whole enc E.P fn.params.toList s.vars false W args.toList ds gs before)
  (hs:s.fn H ds={ results:=[.lit (.bool true)],args:=ds }) (hg:GlobOk E (qcB W)) (habs:∃ h',call k (ds.map qde) []=some (.val (.bool true),h')) (htb:TabFact E (qcB W) W:=by intro _ _ h;cases h) :
  Calls E.P f args W fun e W'=>∃ v,e=.returned v∧s.post enc E.P fn false true false false W args v W':=by
 obtain⟨h',habs⟩:=habs
 have hW':=hW
 obtain⟨p,q,hA,hV,rfl,hfz,hnd⟩:=hW
 rw[hsv] at hV
 obtain⟨rfl,rfl⟩:=trodVars_none hV
 have hrep:=qrk (E:=E) (r:=r) (base:=base) oks hp fn.params.toList args.toList ds p hts (fun j t v h1 h2=>hval j t v (by simpa using h1) (by simpa using h2)) hA
 refine (hc (qcB W) [] W f k (ds.map qde) args (.val (.bool true)) h' hk habs hrep (quK E W htb) hg).mono fun e W' ⟨G',hpost,x,he,hx⟩=>?_
 have hbl:∀ b,b<W.heap.size→W'.heap[b]? = W.heap[b]? := fun b hb=>hpost.block b hb (qfP _ b)
 have hxb:x=.bool true:=by
  generalize hq:AVal.bool true=av at hx
  cases hx<;>cases hq
  rfl
 subst hxb
 refine⟨_,he,qnX (pa:=p) (pv:=[]) hW' (fun b sp hd=>?_) (fun sp hsp=>?_) (fun sp _=>?_) rfl ⟨hpost.os,hpost.tape,hpost.output,hpost.size,hbl⟩ (ok_one hrt rfl (okWide_bool_mk hb true))⟩
 ·rw[List.append_nil,hs,hrt]
  exact trodAll_cons_mk (shut_bool hb true) trodAll_mk0
 ·rw[List.append_nil,hs]
  exact qjM hbl oks hp sp fn.params.toList args.toList ds p hts hA fun p hpp=>hsp p (by simpa using hpp)
 ·rw[hsv,List.append_nil,hs]
  rfl
end Go.Abs
