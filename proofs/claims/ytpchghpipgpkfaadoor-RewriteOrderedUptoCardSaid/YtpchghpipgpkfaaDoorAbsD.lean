/-
  How the heap's steps go on: a new object, a new row that nobody writes, an object written, an append. Conditions: none.
-/
import Derived.Test.YtpchghpipgpkfaaDoorAbsC
set_option linter.unusedVariables false
namespace Go.Abs
variable {E:Env} {G:Ghost} {h:Heap} {w:World}
theorem ObjOk.keep {G':Ghost} {w':World} {id:Nat} {o:AObj} (hk:ObjOk E G w id o) (hle:G.le G') (hb:∀ b,qcz G id o b→w'.heap[b]? = w.heap[b]?)
  (hf:∀ b,qcz G id o b→∀ q,G'.fix b q=G.fix b q) (ht:∀ n,G'.tl id n=G.tl id n):ObjOk E G' w' id o:=by
 cases o with
 | gone=>trivial
 | box cs =>
   obtain⟨b,vs,t,h1,h2,h3,h4⟩:=hk
   exact⟨b,vs,t,hle.blk _ _ h1,by rw[hb b h1];exact h2,h3.mono hle,fun o=>by rw[hf b h1];exact h4 o⟩
 | map es =>
   obtain⟨b,vs,t,es',h1,h2,hpm,hkd,h3,hst,h4⟩:=hk
   exact⟨b,vs,t,es',hle.blk _ _ h1,by rw[hb b h1];exact h2,hpm,hkd,⟨h3.len,fun i e v e1 e2=>⟨(h3.rep i e v e1 e2).1.mono hle,(h3.rep i e v e1 e2).2.mono hle⟩⟩,hst,fun o=>by rw[hf b h1];exact h4 o⟩
 | tail n sz =>
   obtain⟨b,cap,vs,t,h1,h2,h3,h4,h5,h6⟩:=hk
   have ho:qcz G id (.tail n sz) b:=⟨cap,h1⟩
   exact⟨b,cap,vs,t,hle.tl _ _ _ h1,by rw[hb b ho];exact h2,h3,h4,fun o e=>by rw[hf b ho];exact h5 o e,fun m e=>by rw[ht];exact h6 m e⟩
 | vec cs sz =>
   obtain⟨b,cap,vs,t,h1,h2,h3,h4,h5,h6,h7⟩:=hk
   exact⟨b,cap,vs,t,hle.blk _ _ h1,by rw[hb b h1];exact h2,h3,h4,h5.mono hle,fun o=>by rw[hf b h1];exact h6 o,fun m x e=>by rw[ht] at e;exact h7 m x e⟩
theorem qbk {α:Type} {l:List α} {x y:α} {i:Nat} (e:(l++[x])[i]? = some y):(i<l.length∧l[i]? = some y)∨(i=l.length∧y=x):=by
 by_cases hi:i<l.length
 ·rw[List.getElem?_append_left hi] at e
  exact .inl ⟨hi,e⟩
 ·rw[List.getElem?_append_right (by omega)] at e
  have h1:i-l.length<1:=by
   have:=(List.getElem?_eq_some_iff.1 e).1
   simpa using this
  have h2:i=l.length:=by omega
  subst h2
  simp at e
  exact .inr ⟨rfl,e.symm⟩
theorem qgr {α:Type} {l:List α} {i j:Nat} {x y:α} (e:(l.set i x)[j]? = some y):(j≠i∧l[j]? = some y)∨(j=i∧y=x∧i<l.length):=by
 rw[List.getElem?_set] at e
 split at e
 ·rename_i hij
  split at e
  ·rename_i hlt
   injection e with e
   exact .inr ⟨hij.symm,e.symm,hij ▸ hlt⟩
  ·cases e
 ·rename_i hij
  exact .inl ⟨fun hx=>hij hx.symm,e⟩
theorem Inv.owns_lt (hi:Inv E G h w) {id:Nat} {o:AObj} (he:h[id]? = some o) {b:Nat} (ho:qcz G id o b):b<w.heap.size:=hi.own_lt ⟨id,o,he,ho⟩
theorem qnW (hi:Inv E G h w) (o:AObj) (O:Obj) (G':Ghost) (hfix:G'.fix=G.fix)
  (hblk:∀ id,id≠h.length→G'.blk id=G.blk id) (htl:∀ id,id≠h.length→∀ n,G'.tl id n=G.tl id n)
  (hnew:qcz G' h.length o w.heap.size) (hnot:∀ b,qcz G' h.length o b→b=w.heap.size) (hok:ObjOk E G' (w.alloc O) h.length o) :
  Post E G h w G' (h++[o]) (w.alloc O):=by
 have hle:G.le G':=by
  refine⟨fun b o v e=>by rw[hfix];exact e,fun id b e=>?_,fun id n x e=>?_⟩
  ·rw[hblk id (fun hx=>?_)]
   ·exact e
   ·have:=(hi.dom id (by omega)).1
    rw[e] at this;cases this
  ·rw[htl id (fun hx=>?_)]
   ·exact e
   ·have:=(hi.dom id (by omega)).2 n
    rw[e] at this;cases this
 have hold:∀ id o',h[id]? = some o'→∀ b,qcz G' id o' b→qcz G id o' b:=by
  intro id o' he b hw
  have hne:id≠h.length:=fun hx=>by
   have:=(List.getElem?_eq_some_iff.1 he).1
   omega
  cases o' with
  | gone=>exact hw
  | box cs=>have hw':G'.blk id=some b:=hw;rw[hblk id hne] at hw';exact hw'
  | map cs=>have hw':G'.blk id=some b:=hw;rw[hblk id hne] at hw';exact hw'
  | tail n sz=>obtain⟨cap,e⟩:=hw;rw[htl id hne] at e;exact⟨cap,e⟩
  | vec cs sz=>have hw':G'.blk id=some b:=hw;rw[hblk id hne] at hw';exact hw'
 refine⟨hle,⟨?_,fun b q v e=>hi.one b q v (by rw[hfix] at e;exact e),?_,?_,?_,hi.tab.keep hle.fix fun b hb=>heap_alloc_old w _ b hb⟩,by simp,?_,?_,?_,rfl,rfl,rfl⟩
 ·intro b q v e
  rw[hfix] at e
  rw[World.cell?_alloc_lt w _ ⟨b,_,none⟩ (hi.fix_lt (b:=b) (by rw[e];simp))]
  exact hi.fix b q v e
 ·intro id o' e
  rcases qbk e with ⟨hlt,e'⟩ | ⟨rfl,rfl⟩
  ·refine (hi.obj id o' e').keep hle (fun b hb=>?_) (fun b _ q=>by rw[hfix]) (fun n=>htl id (by omega) n)
   exact heap_alloc_old w O b (hi.owns_lt e' hb)
  ·exact hok
 ·intro id o1 id' o2 b e e' h1 h2
  rcases qbk e with ⟨hlt,e1⟩ | ⟨rfl,rfl⟩<;>rcases qbk e' with ⟨hlt',e2⟩ | ⟨rfl,rfl⟩
  ·exact hi.sep id o1 id' o2 b e1 e2 (hold _ _ e1 _ h1) (hold _ _ e2 _ h2)
  ·have:=hi.owns_lt e1 (hold _ _ e1 _ h1)
   have:=hnot b h2
   omega
  ·have:=hi.owns_lt e2 (hold _ _ e2 _ h2)
   have:=hnot b h1
   omega
  ·rfl
 ·intro id e
  simp at e
  exact⟨by rw[hblk id (by omega)];exact (hi.dom id (by omega)).1,fun n=>by rw[htl id (by omega)];exact (hi.dom id (by omega)).2 n⟩
 ·intro b hb _
  exact heap_alloc_old w O b hb
 ·intro b q e
  rw[hfix] at e
  exact .inl e
 ·rintro b ⟨id,o',e,hw⟩
  rcases qbk e with ⟨hlt,e'⟩ | ⟨rfl,rfl⟩
  ·exact .inl ⟨id,o',e',hold _ _ e' _ hw⟩
  ·exact .inr (by rw[hnot b hw];exact Nat.le_refl _)
def Ghost.withBlk (G:Ghost) (id b:Nat):Ghost:={ G with blk:=fun i=>if i=id then some b else G.blk i }
theorem qr9 (hi:Inv E G h w) (cs:List AVal) (vs:Array Value) (t:TypeId) (hr:RepL E G cs vs.toList) :
  Post E G h w (G.withBlk h.length w.heap.size) (h++[.box cs]) (w.alloc (.cells vs t)):=by
 have hle:G.le (G.withBlk h.length w.heap.size):=⟨fun _ _ _ e=>e,fun id b e=>by
  have:id≠h.length:=fun hx=>by
   have:=(hi.dom id (by omega)).1
   rw[e] at this;cases this
  simpa[Ghost.withBlk,this] using e,fun _ _ _ e=>e⟩
 refine qnW hi _ _ _ rfl (fun id hne=>by simp[Ghost.withBlk,hne]) (fun _ _ _=>rfl) (by simp[qcz,Ghost.withBlk]) (fun b hb=>by simp[qcz,Ghost.withBlk] at hb;exact hb.symm) ?_
 refine⟨w.heap.size,vs,t,by simp[Ghost.withBlk],heap_alloc_new w _,hr.mono hle,fun o=>?_⟩
 cases hx:G.fix w.heap.size o with
 | none=>exact hx
 | some v=>exact absurd (hi.fix_lt (b:=w.heap.size) (o:=o) (by rw[hx];simp)) (Nat.lt_irrefl _)
theorem qxY (hi:Inv E G h w):Post E G h w (G.withBlk h.length w.heap.size) (h++[.map []]) (w.alloc (.map #[] 0)):=by
 refine qnW hi _ _ _ rfl (fun id hne=>by simp[Ghost.withBlk,hne]) (fun _ _ _=>rfl) (by simp[qcz,Ghost.withBlk]) (fun b hb=>by simp[qcz,Ghost.withBlk] at hb;exact hb.symm) ?_
 refine⟨w.heap.size,#[],0,[],by simp[Ghost.withBlk],heap_alloc_new w _,.refl _,.nil,⟨rfl,fun i e v e1=>by simp at e1⟩,⟨fun v hv=>by simp at hv,.nil⟩,fun o=>?_⟩
 cases hx:G.fix w.heap.size o with
 | none=>exact hx
 | some v=>exact absurd (hi.fix_lt (b:=w.heap.size) (o:=o) (by rw[hx];simp)) (Nat.lt_irrefl _)
def Ghost.withVec (G:Ghost) (id b n cap sz:Nat):Ghost:={ fix:=G.fix,blk:=fun i=>if i=id then some b else G.blk i,tl:=fun i m=>if i=id then (if m=n then some (b,cap,sz) else none) else G.tl i m }
theorem qjG (hi:Inv E G h w) (cs:List AVal) (vs:Array Value) (t:TypeId) (cap n sz:Nat) (hs:vs.size=cap*sz) (hl:cs.length≤vs.size) (hr:RepL E G cs (vs.toList.take cs.length)) :
  Post E G h w (G.withVec h.length w.heap.size n cap sz) (h++[.vec cs sz]) (w.alloc (.cells vs t)):=by
 have hle:G.le (G.withVec h.length w.heap.size n cap sz):=⟨fun _ _ _ e=>e,fun id b e=>by
  have:id≠h.length:=fun hx=>by
   have:=(hi.dom id (by omega)).1
   rw[e] at this;cases this
  simpa[Ghost.withVec,this] using e,fun id m x e=>by
  have:id≠h.length:=fun hx=>by
   have:=(hi.dom id (by omega)).2 m
   rw[e] at this;cases this
  simpa[Ghost.withVec,this] using e⟩
 refine qnW hi _ _ _ rfl (fun id hne=>by simp[Ghost.withVec,hne]) (fun id hne m=>by simp[Ghost.withVec,hne]) (by simp[qcz,Ghost.withVec]) (fun b hb=>by simp[qcz,Ghost.withVec] at hb;exact hb.symm) ?_
 refine⟨w.heap.size,cap,vs,t,by simp[Ghost.withVec],heap_alloc_new w _,hs,hl,hr.mono hle,fun o=>?_,fun m x e=>?_⟩
 ·cases hx:G.fix w.heap.size o with
  | none=>exact hx
  | some v=>exact absurd (hi.fix_lt (b:=w.heap.size) (o:=o) (by rw[hx];simp)) (Nat.lt_irrefl _)
 ·simp only[Ghost.withVec,if_true] at e
  split at e
  ·injection e with e
   exact e.symm
  ·cases e
theorem qpv (hi:Inv E G h w) {id:Nat} {o:AObj} (he:h[id]? = some o) (cs:List AVal) (b cap n sz:Nat) (w':World) (hb:qcz G id o b∨w.heap.size≤b)
  (hw:∀ k,k<w.heap.size→k≠b→w'.heap[k]? = w.heap[k]?) (hsize:w.heap.size≤w'.heap.size) (hos:w'.os=w.os) (htape:w'.tape=w.tape) (hout:w'.output=w.output) (hfb:∀ q,G.fix b q=none)
  (hok:∀ G',G.le G'→∃ vs t,w'.heap[b]? = some (.cells vs t (0,0))∧vs.size=cap*sz∧cs.length≤vs.size∧RepL E G' cs (vs.toList.take cs.length)) :
  Post E G h w (G.withVec h.length b n cap sz) (h.set id .gone++[.vec cs sz]) w':=by
 have hid:id<h.length:=(List.getElem?_eq_some_iff.1 he).1
 have hle:G.le (G.withVec h.length b n cap sz):=⟨fun _ _ _ e=>e,fun i b' e=>by
  have:i≠h.length:=fun hx=>by
   have:=(hi.dom i (by omega)).1
   rw[e] at this;cases this
  simpa[Ghost.withVec,this] using e,fun i m x e=>by
  have:i≠h.length:=fun hx=>by
   have:=(hi.dom i (by omega)).2 m
   rw[e] at this;cases this
  simpa[Ghost.withVec,this] using e⟩
 have hget:∀ {i:Nat} {o1:AObj},(h.set id .gone++[AObj.vec cs sz])[i]? = some o1→(i=id∧o1=.gone)∨(i≠id∧i<h.length∧h[i]? = some o1)∨(i=h.length∧o1=.vec cs sz):=by
  intro i o1 e
  rcases qbk e with ⟨hlt,e'⟩ | ⟨h1,h2⟩
  ·rcases qgr e' with ⟨hne,e2⟩ | ⟨h1,h2,_⟩
   ·exact .inr (.inl ⟨hne,(List.getElem?_eq_some_iff.1 e2).1,e2⟩)
   ·exact .inl ⟨h1,h2⟩
  ·rw[List.length_set] at h1
   exact .inr (.inr ⟨h1,h2⟩)
 have hold:∀ {i:Nat} {o1:AObj} {b':Nat},i<h.length→qcz (G.withVec h.length b n cap sz) i o1 b'→qcz G i o1 b':=by
  intro i o1 b' hi' hw
  have hne:i≠h.length:=by omega
  cases o1 with
  | gone=>exact hw
  | box cs=>simpa[qcz,Ghost.withVec,hne] using hw
  | map cs=>simpa[qcz,Ghost.withVec,hne] using hw
  | tail n sz=>simpa[qcz,Ghost.withVec,hne] using hw
  | vec cs sz=>simpa[qcz,Ghost.withVec,hne] using hw
 have hnew:∀ {b'},qcz (G.withVec h.length b n cap sz) h.length (.vec cs sz) b'→b'=b:=fun {b'} hw=>by
  simp[qcz,Ghost.withVec] at hw
  exact hw.symm
 have hnb:∀ {i:Nat} {o1:AObj} {b':Nat},i≠id→h[i]? = some o1→qcz G i o1 b'→b'≠b:=by
  intro i o1 b' hne e how hx
  subst hx
  rcases hb with h1 | h1
  ·exact hne (hi.sep i o1 id o b' e he how h1)
  ·have:=hi.owns_lt e how
   omega
 refine⟨hle,⟨fun b' q v e=>?_,hi.one,fun i o1 e=>?_,fun i o1 i' o2 b' e e' h1 h2=>?_,fun i hi'=>?_,fun g m hg=>?_⟩,hsize,fun b' hlt hno=>?_,fun b' q e=>.inl e,fun b' ho=>?_,hos,htape,hout⟩
 ·have e':G.fix b' q=some v:=e
  have hne:b'≠b:=fun hx=>by rw[hx,hfb] at e';cases e'
  have hlt:b'<w.heap.size:=hi.fix_lt (b:=b') (o:=q) (by rw[e'];simp)
  have:=hi.fix b' q v e'
  simp only[World.cell?,hw b' hlt hne] at this ⊢
  exact this
 ·rcases hget e with ⟨rfl,rfl⟩ | ⟨hne,hlt,e'⟩ | ⟨rfl,rfl⟩
  ·trivial
  ·exact (hi.obj i o1 e').keep hle (fun b' hb'=>hw b' (hi.owns_lt e' hb') (hnb hne e' hb')) (fun b' _ q=>rfl) (fun m=>by simp[Ghost.withVec,show i≠h.length by omega])
  ·obtain⟨vs,t,k1,k2,k3,k4⟩:=hok _ hle
   refine⟨b,cap,vs,t,by simp[Ghost.withVec],k1,k2,k3,k4,hfb,fun m x e=>?_⟩
   simp only[Ghost.withVec,if_true] at e
   split at e
   ·injection e with e
    exact e.symm
   ·cases e
 ·rcases hget e with ⟨rfl,rfl⟩ | ⟨hne,hlt,e1⟩ | ⟨rfl,rfl⟩
  ·exact h1.elim
  ·rcases hget e' with ⟨rfl,rfl⟩ | ⟨hne',hlt',e2⟩ | ⟨rfl,rfl⟩
   ·exact h2.elim
   ·exact hi.sep i o1 i' o2 b' e1 e2 (hold hlt h1) (hold hlt' h2)
   ·exact absurd (hnew h2) (hnb hne e1 (hold hlt h1))
  ·rcases hget e' with ⟨rfl,rfl⟩ | ⟨hne',hlt',e2⟩ | ⟨rfl,rfl⟩
   ·exact h2.elim
   ·exact absurd (hnew h1) (hnb hne' e2 (hold hlt' h2))
   ·rfl
 ·rw[List.length_append,List.length_set,List.length_singleton] at hi'
  have hne:i≠h.length:=by omega
  exact⟨by simp only[Ghost.withVec,if_neg hne];exact (hi.dom i (by omega)).1,fun m=>by simp only[Ghost.withVec,if_neg hne];exact (hi.dom i (by omega)).2 m⟩
 ·obtain⟨⟨cs',t,fz,h1,h2⟩,h3⟩:=hi.tab g m hg
  have hne:g≠b:=fun hx=>h3 (by rw[hx];exact hfb 0)
  exact⟨⟨cs',t,fz,by rw[hw g (Array.getElem?_eq_some_iff.1 h1).1 hne];exact h1,h2⟩,h3⟩
 ·refine hw b' hlt fun hx=>hno ?_
  subst hx
  rcases hb with h1 | h1
  ·exact⟨id,o,he,h1⟩
  ·omega
 ·obtain⟨i,o1,e,ho⟩:=ho
  rcases hget e with ⟨rfl,rfl⟩ | ⟨hne,hlt,e1⟩ | ⟨rfl,rfl⟩
  ·exact ho.elim
  ·exact .inl ⟨i,o1,e1,hold hlt ho⟩
  ·rw[hnew ho]
   rcases hb with h1 | h1
   ·exact .inl ⟨id,o,he,h1⟩
   ·exact .inr h1
def Ghost.withRow (G:Ghost) (b:Nat) (vs:List Value):Ghost:={ G with fix:=fun b' o=>if b'=b then vs[o]? else G.fix b' o }
theorem qjo (hi:Inv E G h w) (vs:List Value):G.le (G.withRow w.heap.size vs):=by
 refine⟨fun b o v e=>?_,fun _ _ e=>e,fun _ _ _ e=>e⟩
 have:b≠w.heap.size:=fun hx=>by
  have:=hi.fix_lt (b:=b) (o:=o) (by rw[e];simp)
  omega
 simpa[Ghost.withRow,this] using e
theorem quV (hi:Inv E G h w) (vs:List Value) (cells:Array Value) (t:TypeId) (hv:∀ (i:Nat) (v:Value),vs[i]? = some v→cells[i]? = some v) (h1:∀ v∈vs,v.oneCell'=true) :
  Inv E (G.withRow w.heap.size vs) h (w.alloc (.cells cells t)):=by
 have hle:=qjo hi vs
 refine⟨fun b o v e=>?_,fun b o v e=>?_,fun id o e=>?_,hi.sep,hi.dom,hi.tab.keep hle.fix fun b hb=>heap_alloc_old w _ b hb⟩
 ·by_cases hb:b=w.heap.size
  ·subst hb
   simp[Ghost.withRow] at e
   rw[World.cell?_alloc_new]
   exact hv o v e
  ·simp[Ghost.withRow,hb] at e
   rw[World.cell?_alloc_lt w _ ⟨b,_,none⟩ (hi.fix_lt (b:=b) (by rw[e];simp))]
   exact hi.fix b o v e
 ·by_cases hb:b=w.heap.size
  ·subst hb
   simp[Ghost.withRow] at e
   exact h1 v (List.mem_of_getElem? e)
  ·simp[Ghost.withRow,hb] at e
   exact hi.one b o v e
 ·refine (hi.obj id o e).keep hle (fun b hb=>heap_alloc_old w _ b (hi.owns_lt e hb)) (fun b hb q=>?_) (fun _=>rfl)
  have:b≠w.heap.size:=Nat.ne_of_lt (hi.owns_lt e hb)
  simp[Ghost.withRow,this]
theorem qxZ (hi:Inv E G h w) (vs:List Value) (cells:Array Value) (t:TypeId) (hv:∀ (i:Nat) (v:Value),vs[i]? = some v→cells[i]? = some v) (h1:∀ v∈vs,v.oneCell'=true) :
  Post E G h w (G.withRow w.heap.size vs) h (w.alloc (.cells cells t)):=by
 refine⟨qjo hi vs,quV hi vs cells t hv h1,by simp,fun b hb _=>heap_alloc_old w _ b hb,fun b o e=>?_,fun b e=>.inl e,rfl,rfl,rfl⟩
 by_cases hb:b=w.heap.size
 ·exact .inr (.inr (by omega))
 ·simp[Ghost.withRow,hb] at e
  exact .inl (by simpa using e)
theorem qcr (b o j:Nat):(⟨b,o,none⟩:Addr).add j=⟨b,o+j,none⟩:=by unfold Addr.add;split<;>simp_all
theorem qov (hi:Inv E G h w) {id:Nat} {cs:List AVal} (he:h[id]? = some (.box cs)) {b:Nat} (hb:G.blk id=some b) :
  ∃ vs:List Value,RepL E G cs vs∧∀ (i:Nat) (v:Value),vs[i]? = some v→w.cell? ⟨b,i,none⟩=some v:=by
 obtain⟨b',vs,t,h1,h2,h3,h4⟩:=hi.obj id _ he
 have:b'=b:=by rw[hb] at h1;injection h1 with h1;exact h1.symm
 subst this
 exact⟨vs.toList,h3,fun i v e=>by simp[World.cell?,h2];simpa using e⟩
theorem qpY (hi:Inv E G h w) {id:Nat} {cs:List AVal} {sz:Nat} (he:h[id]? = some (.vec cs sz)) {b:Nat} (hb:G.blk id=some b) :
  ∃ vs:List Value,RepL E G cs vs∧∀ (i:Nat) (v:Value),vs[i]? = some v→w.cell? ⟨b,i,none⟩=some v:=by
 obtain⟨b',cap,vs,t,h1,h2,_,_,h3,_⟩:=hi.obj id _ he
 have:b'=b:=by rw[hb] at h1;injection h1 with h1;exact h1.symm
 subst this
 refine⟨_,h3,fun i v e=>?_⟩
 rw[List.getElem?_take] at e
 split at e
 ·simp[World.cell?,h2];simpa using e
 ·cases e
theorem qjJ (hi:Inv E G h w) {a:AVal} {x:Value} {n:Nat} {cs:List AVal} (hx:Rep E G a x) (hr:qaS h a n=some cs) :
  ∃ b o,∃ vs:List Value,x=.pointer (some ⟨b,o,none⟩)∧cs.length=n∧RepL E G cs vs∧∀ (j:Nat) (v:Value),vs[j]? = some v→w.cell? ⟨b,o+j,none⟩=some v:=by
 unfold qaS at hr
 split at hr
 ·rename_i id off
  split at hr
  ·rename_i cs0 he
   split at hr
   ·rename_i hle
    injection hr with hr
    cases hx with
    | ptr hb =>
      rename_i b
      obtain⟨vs,h1,h2⟩:=qov hi he hb
      refine⟨b,off,(vs.drop off).take n,rfl,by rw[← hr];simp;omega,by rw[← hr];exact (h1.drop off).take n,fun j v e=>?_⟩
      rw[List.getElem?_take] at e
      split at e
      ·rw[List.getElem?_drop] at e
       exact h2 _ v e
      ·cases e
   ·cases hr
  ·rename_i cs0 sz0 he
   split at hr
   ·rename_i hle
    injection hr with hr
    cases hx with
    | ptr hb =>
      rename_i b
      obtain⟨vs,h1,h2⟩:=qpY hi he hb
      refine⟨b,off,(vs.drop off).take n,rfl,by rw[← hr];simp;omega,by rw[← hr];exact (h1.drop off).take n,fun j v e=>?_⟩
      rw[List.getElem?_take] at e
      split at e
      ·rw[List.getElem?_drop] at e
       exact h2 _ v e
      ·cases e
   ·cases hr
  ·cases hr
 ·rename_i cs0 off
  split at hr
  ·rename_i hle
   injection hr with hr
   cases hx with
   | vptr vs hl hf hrr =>
     rename_i b o
     refine⟨b,o+off,(vs.drop off).take n,rfl,by rw[← hr];simp;omega,by rw[← hr];exact ((⟨hl,hrr⟩:RepL E G cs0 vs).drop off).take n,fun j v e=>?_⟩
     rw[List.getElem?_take] at e
     split at e
     ·rw[List.getElem?_drop] at e
      have:=hi.fix _ _ _ (hf _ v e)
      rwa [← Nat.add_assoc] at this
     ·cases e
  ·cases hr
 ·cases hr
theorem qlb (hi:Inv E G h w) {a c:AVal} {x:Value} (hx:Rep E G a x) (hr:qag h a=some c) :
  ∃ b o v,x=.pointer (some ⟨b,o,none⟩)∧Rep E G c v∧w.cell? ⟨b,o,none⟩=some v:=by
 unfold qag at hr
 split at hr
 ·rename_i id off
  split at hr
  ·rename_i cs0 he
   cases hx with
   | ptr hb =>
     rename_i b
     obtain⟨vs,h1,h2⟩:=qov hi he hb
     obtain⟨v,hv,hrep⟩:=h1.get hr
     exact⟨b,off,v,rfl,hrep,h2 _ _ hv⟩
  ·rename_i cs0 sz0 he
   cases hx with
   | ptr hb =>
     rename_i b
     obtain⟨vs,h1,h2⟩:=qpY hi he hb
     obtain⟨v,hv,hrep⟩:=h1.get hr
     exact⟨b,off,v,rfl,hrep,h2 _ _ hv⟩
  ·cases hr
 ·rename_i cs0 off
  cases hx with
  | vptr vs hl hf hrr =>
    rename_i b o
    obtain⟨v,hv,hrep⟩:=(⟨hl,hrr⟩:RepL E G cs0 vs).get hr
    exact⟨b,o+off,v,rfl,hrep,hi.fix _ _ _ (hf _ v hv)⟩
 ·cases hr
theorem qdB (w:World) (b:Nat) (old new:Array Value) (t:TypeId) (hb:w.heap[b]? = some (.cells old t (0,0))):(w.setRow b new).heap[b]? = some (.cells new t (0,0)):=setRow_heap w b old new t _ hb
theorem qiF (w:World) (g k:Nat) (cs:Array Value) (hk:k≠g):(w.setRow g cs).heap[k]? = w.heap[k]? := setRow_other w g k cs hk
theorem qfW (w:World) (g:Nat) (cs:Array Value):(w.setRow g cs).heap.size=w.heap.size:=by simp[World.setRow]
theorem qfh (hi:Inv E G h w) {id b:Nat} {o o':AObj} (he:h[id]? = some o) (ho:qcz G id o b) (G':Ghost) (w':World)
  (hle:G.le G') (hblk:G'.blk=G.blk) (htl:∀ id',id'≠id→∀ n,G'.tl id' n=G.tl id' n)
  (hfix:∀ b',b'≠b→∀ q,G'.fix b' q=G.fix b' q) (hfixb:∀ q v,G'.fix b q=some v→w'.cell? ⟨b,q,none⟩=some v) (hone:∀ q v,G'.fix b q=some v→v.oneCell'=true)
  (hb:∀ k,k≠b→w'.heap[k]? = w.heap[k]?) (hsize:w'.heap.size=w.heap.size) (hos:w'.os=w.os) (htape:w'.tape=w.tape) (hout:w'.output=w.output)
  (hdom:∀ n,h.length≤id→G'.tl id n=none)
  (hown:∀ b',qcz G' id o' b'→b'=b) (hok:ObjOk E G' w' id o')
  (hcs:G.fix b 0≠none→∀ cs t fz,w.heap[b]? = some (.cells cs t fz)→∃ cs' t' fz',w'.heap[b]? = some (.cells cs' t' fz')∧cs'.size=cs.size):Post E G h w G' (h.set id o') w':=by
 have hcell:∀ b' q,b'≠b→w'.cell? ⟨b',q,none⟩=w.cell? ⟨b',q,none⟩:=fun b' q hne=>by simp[World.cell?,hb b' hne]
 have hold:∀ id' o1,id'≠id→∀ b',qcz G' id' o1 b'→qcz G id' o1 b':=by
  intro id' o1 hne b' hw
  cases o1 with
  | gone=>exact hw
  | box cs=>have hw':G'.blk id'=some b':=hw;rw[hblk] at hw';exact hw'
  | map cs=>have hw':G'.blk id'=some b':=hw;rw[hblk] at hw';exact hw'
  | tail n sz=>obtain⟨cap,e⟩:=hw;rw[htl id' hne] at e;exact⟨cap,e⟩
  | vec cs sz=>have hw':G'.blk id'=some b':=hw;rw[hblk] at hw';exact hw'
 refine⟨hle,⟨fun b' q v e=>?_,fun b' q v e=>?_,fun id' o1 e=>?_,fun id1 o1 id2 o2 b' e1 e2 h1 h2=>?_,fun id' e=>?_,hi.tab.write hle.fix hb hcs⟩,by omega,fun k hk hn=>hb k (fun hx=>hn ⟨id,o,he,by rw[hx];exact ho⟩),fun b' q e=>?_,?_,hos,htape,hout⟩
 ·by_cases hbb:b'=b
  ·subst hbb
   exact hfixb q v e
  ·rw[hcell b' q hbb]
   rw[hfix b' hbb] at e
   exact hi.fix b' q v e
 ·by_cases hbb:b'=b
  ·subst hbb
   exact hone q v e
  ·rw[hfix b' hbb] at e
   exact hi.one b' q v e
 ·rcases qgr e with ⟨hne,e'⟩ | ⟨rfl,rfl,_⟩
  ·have hnb:∀ b',qcz G id' o1 b'→b'≠b:=fun b' hw hx=>hne (hi.sep id' o1 id o b e' he (hx ▸ hw) ho)
   exact (hi.obj id' o1 e').keep hle (fun b' hw=>hb b' (hnb b' hw)) (fun b' hw q=>hfix b' (hnb b' hw) q) (fun n=>htl id' hne n)
  ·exact hok
 ·rcases qgr e1 with ⟨hn1,f1⟩ | ⟨rfl,rfl,_⟩<;>rcases qgr e2 with ⟨hn2,f2⟩ | ⟨rfl,rfl,_⟩
  ·exact hi.sep id1 o1 id2 o2 b' f1 f2 (hold _ _ hn1 _ h1) (hold _ _ hn2 _ h2)
  ·have:=hown b' h2
   subst this
   exact hi.sep id1 o1 _ o b' f1 he (hold _ _ hn1 _ h1) ho
  ·have:=hown b' h1
   subst this
   exact hi.sep _ o id2 o2 b' he f2 ho (hold _ _ hn2 _ h2)
  ·rfl
 ·rw[List.length_set] at e
  refine⟨by rw[hblk];exact (hi.dom id' e).1,fun n=>?_⟩
  by_cases hx:id'=id
  ·subst hx;exact hdom n e
  ·rw[htl id' hx];exact (hi.dom id' e).2 n
 ·by_cases hbb:b'=b
  ·subst hbb
   exact .inr (.inl ⟨id,o,he,ho⟩)
  ·rw[hfix b' hbb] at e
   exact .inl e
 ·rintro b' ⟨id',o1,e,hw⟩
  rcases qgr e with ⟨hne,e'⟩ | ⟨rfl,rfl,_⟩
  ·exact .inl ⟨id',o1,e',hold _ _ hne _ hw⟩
  ·have:=hown b' hw
   subst this
   exact .inl ⟨_,o,he,ho⟩
theorem qpu (hi:Inv E G h w) {id:Nat} {cs cs':List AVal} (he:h[id]? = some (.box cs)) {b:Nat} (hb:G.blk id=some b) {old:Array Value} {t:TypeId}
  (hh:w.heap[b]? = some (.cells old t (0,0))) (new:Array Value) (hr:RepL E G cs' new.toList):Post E G h w G (h.set id (.box cs')) (w.setRow b new):=by
 obtain⟨b',vs,t',h1,h2,h3,h4⟩:=hi.obj id _ he
 have hbb:b'=b:=by rw[hb] at h1;injection h1 with h1;exact h1.symm
 subst hbb
 refine qfh hi he hb G _ (.refl G) rfl (fun _ _ _=>rfl) (fun _ _ _=>rfl) (fun q v e=>by rw[h4] at e;cases e) (fun q v e=>by rw[h4] at e;cases e) (fun k hk=>qiF w _ k new hk) (qfW w _ new) rfl rfl rfl
  (fun n hn=>(hi.dom id hn).2 n) (fun b2 hw=>by have hw':G.blk id=some b2:=hw;rw[hb] at hw';injection hw' with hw';exact hw'.symm) ?_ (fun hx=>absurd (h4 0) hx)
 exact⟨_,new,t,hb,qdB w _ old new t hh,hr,h4⟩
theorem qpw (hi:Inv E G h w) {id:Nat} {cs cs':List AVal} {sz:Nat} (he:h[id]? = some (.vec cs sz)) {b:Nat} (hb:G.blk id=some b) {old:Array Value} {t:TypeId}
  (hh:w.heap[b]? = some (.cells old t (0,0))) (new:Array Value) (hs:new.size=old.size) (hl:cs'.length=cs.length) (hr:RepL E G cs' (new.toList.take cs'.length)):Post E G h w G (h.set id (.vec cs' sz)) (w.setRow b new):=by
 obtain⟨b',cap,vs,t',h1,h2,h3,h4,h5,h6,h7⟩:=hi.obj id _ he
 have hbb:b'=b:=by rw[hb] at h1;injection h1 with h1;exact h1.symm
 subst hbb
 have hvo:vs=old:=by rw[hh] at h2;injection h2 with h2;injection h2 with h2 _ _;exact h2.symm
 subst hvo
 refine qfh hi he hb G _ (.refl G) rfl (fun _ _ _=>rfl) (fun _ _ _=>rfl) (fun q v e=>by rw[h6] at e;cases e) (fun q v e=>by rw[h6] at e;cases e) (fun k hk=>qiF w _ k new hk) (qfW w _ new) rfl rfl rfl
  (fun n hn=>(hi.dom id hn).2 n) (fun b2 hw=>by have hw':G.blk id=some b2:=hw;rw[hb] at hw';injection hw' with hw';exact hw'.symm) ?_ (fun hx=>absurd (h6 0) hx)
 exact⟨_,cap,new,t,hb,qdB w _ vs new t hh,by rw[hs];exact h3,by rw[hs,hl];exact h4,hr,h6,h7⟩
theorem qcA {α:Type} (cs:List α) (off:Nat) (vs:List α) (hl:off+vs.length≤cs.length):(cs.take off++vs++cs.drop (off+vs.length)).length=cs.length:=by
 simp;omega
theorem qq7 {α:Type} (V Y:List α) (L off i:Nat) (h1:off+Y.length≤L) (h2:L≤V.length) (hi:i<L) :
  (List.take off (List.take L V)++Y++List.drop (off+Y.length) (List.take L V))[i]? = (List.take off V++Y++List.drop (off+Y.length) V)[i]? := by
 have e1:List.take off (List.take L V)=List.take off V:=by rw[List.take_take,Nat.min_eq_left (by omega)]
 have hk:(List.take off V++Y).length=off+Y.length:=by simp;omega
 rw[e1,List.drop_take]
 generalize List.take off V++Y=A at *
 generalize List.drop (off+Y.length) V=D at *
 by_cases h:i<A.length
 ·rw[List.getElem?_append_left h,List.getElem?_append_left h]
 ·rw[List.getElem?_append_right (by omega),List.getElem?_append_right (by omega),List.getElem?_take,if_pos (by omega)]
theorem qq6 (hi:Inv E G h w) {a v:AVal} {x y:Value} {n:Nat} {h':Heap} (hx:Rep E G a x) (hy:Rep E G v y) (hs:qaT h n a v=some h') :
  ∃ b o w',x=.pointer (some ⟨b,o,none⟩)∧y.cells.size=n∧(storeCells ⟨b,o,none⟩ y.cells.toList).run E.P w=.ok () w'∧Post E G h w G h' w':=by
 unfold qaT at hs
 split at hs
 ·rename_i id off
  split at hs
  ·rename_i cs he
   split at hs
   ·rename_i hc
    obtain⟨hc1,hc2,hc3⟩:=hc
    injection hs with hs
    cases hx with
    | ptr hb =>
      rename_i b
      obtain⟨b',vs,t,h1,h2,h3,h4⟩:=hi.obj id _ he
      have hbb:b'=b:=by rw[hb] at h1;injection h1 with h1;exact h1.symm
      subst hbb
      have hj:v≠.junk:=fun hx=>by rw[hx] at hc3;simp[acells,leaf] at hc3
      have hcl:=hy.cells hj
      have hlen:y.cells.toList.length=(acells v).length:=hcl.len
      have hone:∀ u∈y.cells.toList,u.oneCell'=true:=by
       intro u hu
       obtain⟨i,hiu⟩:=List.getElem?_of_mem hu
       have hlt:i<(acells v).length:=by rw[← hlen];exact (List.getElem?_eq_some_iff.1 hiu).1
       have hg:(acells v)[i]? = some (acells v)[i]:=List.getElem?_eq_getElem hlt
       exact (hcl.rep i _ u hg hiu).oneCell (List.all_eq_true.1 hc3 _ (List.getElem_mem hlt))
      have hsz:vs.size=cs.length:=by have:=h3.len;simpa using this
      have hrun:=run_storeCells_at E.P b' off t y.cells.toList 0 vs w h2 (by rw[hlen];omega) hone
      refine⟨b',off,_,rfl,by rw[← hc1,← hlen];simp,hrun,?_⟩
      rw[← hs]
      refine qpu hi he hb h2 _ ?_
      simp only[Nat.add_zero]
      unfold qat
      rw[show (acells v).length=y.cells.toList.length from hlen.symm]
      exact ((h3.take off).append hcl).append (h3.drop _)
   ·cases hs
  ·rename_i cs sz he
   split at hs
   ·rename_i hc
    obtain⟨hc1,hc2,hc3⟩:=hc
    injection hs with hs
    cases hx with
    | ptr hb =>
      rename_i b
      obtain⟨b',cap,vs,t,h1,h2,h3,h4,h5,h6,h7⟩:=hi.obj id _ he
      have hbb:b'=b:=by rw[hb] at h1;injection h1 with h1;exact h1.symm
      subst hbb
      have hj:v≠.junk:=fun hx=>by rw[hx] at hc3;simp[acells,leaf] at hc3
      have hcl:=hy.cells hj
      have hlen:y.cells.toList.length=(acells v).length:=hcl.len
      have hone:∀ u∈y.cells.toList,u.oneCell'=true:=by
       intro u hu
       obtain⟨i,hiu⟩:=List.getElem?_of_mem hu
       have hlt:i<(acells v).length:=by rw[← hlen];exact (List.getElem?_eq_some_iff.1 hiu).1
       have hg:(acells v)[i]? = some (acells v)[i]:=List.getElem?_eq_getElem hlt
       exact (hcl.rep i _ u hg hiu).oneCell (List.all_eq_true.1 hc3 _ (List.getElem_mem hlt))
      have hrun:=run_storeCells_at E.P b' off t y.cells.toList 0 vs w h2 (by rw[hlen];omega) hone
      refine⟨b',off,_,rfl,by rw[← hc1,← hlen];simp,hrun,?_⟩
      rw[← hs]
      have hcsl:(qat cs off (acells v)).length=cs.length:=qcA cs off (acells v) (by omega)
      simp only[Nat.add_zero]
      refine qpw hi he hb h2 _ ?_ hcsl ?_
      ·have:=qcA vs.toList off y.cells.toList (by have q:=Array.length_toList (xs:=vs);omega)
       simpa using this
      ·rw[hcsl]
       have hx2:=((h5.take off).append hcl).append (h5.drop (off+(acells v).length))
       unfold qat
       refine⟨by have:=hx2.len;simp at this ⊢;omega,fun i c u e e'=>hx2.rep i c u e ?_⟩
       rw[List.getElem?_take] at e'
       split at e'
       ·rename_i hi'
        rw[← e',← hlen]
        exact qq7 vs.toList y.cells.toList cs.length off i (by omega) (by rw[Array.length_toList];omega) hi'
       ·cases e'
   ·cases hs
  ·cases hs
 ·cases hs
end Go.Abs
