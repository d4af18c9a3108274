/-
  Regions that draw their order: what they give in the order of the text they give in every order, where nothing that is read is turned. Conditions: none.
-/
import Derived.Test.YtpchghpipgpkfaaDoorK
import Derived.Orders
set_option linter.unusedVariables false
namespace Go.Abs
variable {E:Env} {G:Ghost} {h:Heap} {w:World}
def qfZ:Opd→List Nat
 | .tmp t=>[t]
 | .val _=>[]
def qlP (l:List Opd):List Nat:=l.flatMap qfZ
def qBg (o:Option Opd):List Nat:=match o with | some x=>qfZ x | none=>[]
def looks:AOp→List Nat
 | .move x | .box x | .load1 x | .loadN _ x | .field _ x | .part1 _ x | .partN _ _ x | .un _ x | .extract _ x | .len _ x | .nilCheck x | .conv _ x | .convS x | .makeIface _ x=>qfZ x
 | .pick a b c=>qfZ a++qfZ b++qfZ c
 | .alloc _ | .makeMap | .stuck=>[]
 | .build _ ps=>ps.flatMap fun p=>qfZ p.2.2
 | .buildSlice _ ps=>qlP ps
 | .store _ a x | .indexList _ a x | .indexArr _ _ a x | .indexStr a x | .indexAgg _ a x | .bin _ _ a x | .append _ _ a x | .appendV _ _ a x=>qfZ a++qfZ x
 | .lookup _ _ _ a x | .makeSlice _ a x=>qfZ a++qfZ x
 | .slice _ x lo hi mx=>qfZ x++qBg lo++qBg hi++qBg mx
 | .sliceStr x lo hi=>qfZ x++qBg lo++qBg hi
 | .makeFunc _ a b=>qlP a++qlP b
 | .mapUpdate _ a b c=>qfZ a++qfZ b++qfZ c
 | .minMax _ xs=>qlP xs
 | .call f xs | .pcallV f xs | .hcall f xs=>qfZ f++qlP xs
 | .pcall _ xs | .vcall _ xs=>qlP xs
theorem qb8 {tm tm':Tmps} {x:Opd} (h:∀ t∈qfZ x,tm t=tm' t):opd tm x=opd tm' x:=by
 cases x with
 | tmp t=>exact h t (by simp[qfZ])
 | val v=>rfl
theorem qcL {tm tm':Tmps} {l:List Opd} (h:∀ t∈qlP l,tm t=tm' t):l.map (opd tm)=l.map (opd tm') :=
 List.map_congr_left fun x hx=>qb8 fun t ht=>h t (List.mem_flatMap.2 ⟨x,hx,ht⟩)
theorem qfe {tm tm':Tmps} {x:Option Opd} (h:∀ t∈qBg x,tm t=tm' t):x.map (opd tm)=x.map (opd tm'):=by
 cases x with
 | none=>rfl
 | some y=>simp only[Option.map_some];rw[qb8 h]
theorem qom (pure:Nat→Bool) (call:CallT) {op:AOp} {tm tm':Tmps} (h:Heap) (hl:∀ t∈looks op,tm t=tm' t):aOp pure call op tm h=aOp pure call op tm' h:=by
 cases op<;>simp only[looks,List.mem_append,or_imp,forall_and] at hl<;>simp only[aOp]
 case build z ps =>
  have:ps.map (fun p=>(p.1,p.2.1,opd tm p.2.2))=ps.map (fun p=>(p.1,p.2.1,opd tm' p.2.2)):=List.map_congr_left fun p hp=>by
   rw[qb8 fun t ht=>hl t (List.mem_flatMap.2 ⟨p,hp,ht⟩)]
  rw[this]
 case buildSlice sz ps =>
  have h2:=qcL hl
  have h3:ps.map (fun p=>wipe (opd tm p))=ps.map (fun p=>wipe (opd tm' p)):=by
   have:=congrArg (List.map wipe) h2
   simpa using this
  rw[h2,h3]
 case minMax mx xs=>rw[qcL hl]
 case makeFunc f x y=>rw[qcL hl.1,qcL hl.2]
 case call f xs=>rw[qb8 hl.1,qcL hl.2]
 case hcall f xs=>rw[qb8 hl.1,qcL hl.2]
 case vcall f xs=>rw[qcL hl]
 case pcall f xs=>rw[qcL hl]
 case pcallV f xs=>rw[qb8 hl.1,qcL hl.2]
 case slice sz x lo hi mx=>rw[qb8 hl.1.1.1,qfe hl.1.1.2,qfe hl.1.2,qfe hl.2]
 case sliceStr x lo hi=>rw[qb8 hl.1.1,qfe hl.1.2,qfe hl.2]
 all_goals first
  | rfl
  | (rw[qb8 hl];done)
  | (rw[qb8 hl.1,qb8 hl.2];done)
  | (rw[qb8 hl.1.1,qb8 hl.1.2,qb8 hl.2];done)
def qi3:Option (Option Nat × Bool)→List Nat
 | some (some d,_)=>[d]
 | _=>[]
def qlL (s:Step):List Nat:=looks s.op++qi3 s.guard
theorem qjP {g:Option (Option Nat × Bool)} {tm tm':Tmps} (hl:∀ t∈qi3 g,tm t=tm' t):qaf g tm=qaf g tm':=by
 unfold qaf
 split<;>try rfl
 rename_i d want
 rw[hl d (by simp[qi3])]
def reads:AOp→Bool
 | .load1 _ | .loadN _ _ | .lookup .. => true
 | .len k _=>(match k with | .map=>true | _=>false)
 | _=>false
theorem qpO {x:Option AVal} {h h':Heap} {r:ARes} (hr:qaa x h=some (r,h')):h'=h∧∃ v,r=.val v∧x=some v:=by
 unfold qaa at hr
 split at hr
 ·simp only[Option.some.injEq,Prod.mk.injEq] at hr
  exact⟨hr.2.symm,_,hr.1.symm,rfl⟩
 ·cases hr
theorem qjL {x:Option AVal} {h h':Heap} {r:ARes} (hr:qaa x h=some (r,h')):h'=h∧∃ v,r=.val v:=by
 obtain⟨h1,v,h2,_⟩:=qpO hr
 exact⟨h1,v,h2⟩
theorem qpM {va:AVal} {h h':Heap} {r:ARes} (hr:some (ARes.val va,h)=some (r,h')):h'=h∧∃ v,r=.val v:=by
 simp only[Option.some.injEq,Prod.mk.injEq] at hr
 exact⟨hr.2.symm,_,hr.1.symm⟩
theorem qpl {h h':Heap} {r:ARes} (hr:(none:Option (ARes × Heap))=some (r,h')):h'=h∧∃ v,r=.val v:=by cases hr
theorem qfx {pure:Nat→Bool} {call:CallT} {f:Nat} {args:List AVal} (hc:pure f=true∧qax (args.map wipe)=true) {h h':Heap} {v:AVal} (hr:qc8 pure call f args h=some (.val v,h')) (h2:Heap) :
  h'=h∧qc8 pure call f args h2=some (.val v,h2):=by
 unfold qc8 at hr ⊢
 rw[if_pos hc] at hr ⊢
 cases hx:call f (args.map wipe) [] with
 | none=>rw[hx] at hr;cases hr
 | some x =>
   obtain⟨r,hh⟩:=x
   rw[hx] at hr
   cases r with
   | val u =>
     dsimp only at hr ⊢
     split at hr
     ·rename_i hd
      simp only[Option.some.injEq,Prod.mk.injEq,ARes.val.injEq] at hr
      obtain⟨rfl,rfl⟩:=hr
      exact⟨rfl,if_pos hd⟩
     ·cases hr
   | panic u =>
     dsimp only at hr
     split at hr
     ·simp at hr
     ·cases hr
theorem qm2 (pure:Nat→Bool) (call:CallT) {op:AOp} (hq:qaz op=false) {tm:Tmps} {h h':Heap} {r:ARes} (hr:aOp pure call op tm h=some (r,h')):h'=h∧∃ v,r=.val v:=by
 cases op<;>first | (simp[qaz] at hq;done) | simp only[aOp] at hr
 case pcallV f args =>
  split at hr
  ·unfold qlw at hr
   split at hr
   ·rename_i hc
    unfold qaw at hr
    split at hr
    ·rename_i v h1 hd
     simp only[Option.some.injEq,Prod.mk.injEq] at hr
     obtain⟨rfl,rfl⟩:=hr
     exact⟨(qfx hc hd h).1,_,rfl⟩
    ·cases hr
   ·cases hr
  ·cases hr
 case pcall f args =>
  split at hr
  ·rename_i hc
   unfold qaw at hr
   split at hr
   ·rename_i v h1 hd
    simp only[Option.some.injEq,Prod.mk.injEq] at hr
    obtain⟨rfl,rfl⟩:=hr
    exact⟨(qfx hc hd h).1,_,rfl⟩
   ·cases hr
  ·cases hr
 all_goals first
  | exact qjL hr
  | exact qpM hr
  | exact qpl hr
  | (split at hr<;>first | exact qjL hr | exact qpM hr | exact qpl hr)
theorem qeP {x:Option AVal} {h h':Heap} {r:ARes} (hr:qaa x h=some (r,h')) (h2:Heap):qaa x h2=some (r,h2):=by
 unfold qaa at hr ⊢
 split at hr
 ·simp only[Option.some.injEq,Prod.mk.injEq] at hr
  simp[hr.1]
 ·cases hr
theorem qeC {va:AVal} {h h':Heap} {r:ARes} (hr:some (ARes.val va,h)=some (r,h')) (h2:Heap):some (ARes.val va,h2)=some (r,h2):=by
 simp only[Option.some.injEq,Prod.mk.injEq] at hr
 rw[hr.1]
theorem qtd (pure:Nat→Bool) (call:CallT) {op:AOp} (hq:qaz op=false) (hn:reads op=false) {tm:Tmps} {h h':Heap} {r:ARes} (hr:aOp pure call op tm h=some (r,h')) (h2:Heap):aOp pure call op tm h2=some (r,h2):=by
 cases op with
 | len k x =>
   simp only[aOp] at hr ⊢
   cases k with
   | map=>simp[reads] at hn
   | str=>rw[show qbd h2 .str (opd tm x)=qbd h .str (opd tm x) by cases opd tm x<;>rfl];exact qeP hr h2
   | slice=>rw[show qbd h2 .slice (opd tm x)=qbd h .slice (opd tm x) by cases opd tm x<;>rfl];exact qeP hr h2
 | pick a b c =>
   simp only[aOp] at hr ⊢
   cases hx:opd tm a<;>rw[hx] at hr<;>first | exact qeC hr h2 | cases hr
 | extract i x =>
   simp only[aOp] at hr ⊢
   cases hx:opd tm x<;>rw[hx] at hr<;>first | exact qeP hr h2 | cases hr
 | conv k x =>
   simp only[aOp] at hr ⊢
   cases hx:opd tm x<;>rw[hx] at hr<;>first | exact qeC hr h2 | cases hr
 | convS x =>
   simp only[aOp] at hr ⊢
   cases hx:opd tm x<;>rw[hx] at hr<;>first | exact qeC hr h2 | cases hr
 | nilCheck x =>
   simp only[aOp] at hr ⊢
   cases hx:opd tm x with
   | ptr p=>cases p<;>rw[hx] at hr<;>first | exact qeC hr h2 | cases hr
   | _=>rw[hx] at hr;first | exact qeC hr h2 | cases hr
 | buildSlice sz ps =>
   simp only[aOp] at hr ⊢
   split at hr
   ·rename_i hc
    rw[if_pos hc]
    exact qeC hr h2
   ·cases hr
 | pcallV f args =>
   simp only[aOp] at hr ⊢
   split at hr
   ·unfold qlw at hr ⊢
    split at hr
    ·rename_i hc
     rw[if_pos hc]
     unfold qaw at hr ⊢
     split at hr
     ·rename_i v h1 hd
      simp only[Option.some.injEq,Prod.mk.injEq] at hr
      obtain⟨rfl,rfl⟩:=hr
      rw[(qfx hc hd h2).2]
     ·cases hr
    ·cases hr
   ·cases hr
 | pcall f args =>
   simp only[aOp] at hr ⊢
   split at hr
   ·rename_i hc
    rw[if_pos hc]
    unfold qaw at hr ⊢
    split at hr
    ·rename_i v h1 hd
     simp only[Option.some.injEq,Prod.mk.injEq] at hr
     obtain⟨rfl,rfl⟩:=hr
     rw[(qfx hc hd h2).2]
    ·cases hr
   ·cases hr
 | _ =>
   first
    | (simp[qaz] at hq;done)
    | (simp[reads] at hn;done)
    | (simp only[aOp] at hr ⊢;first | exact qeP hr h2 | exact qeC hr h2 | cases hr)
theorem qvG (p p':Nat→Bool) (c c':CallT) {op:AOp} (hn:reads op=true) (tm:Tmps) (h:Heap):aOp p c op tm h=aOp p' c' op tm h:=by
 cases op<;>first | (simp[reads] at hn;done) | rfl
def qbv (o:Oper):List Nat:=(o.after.toList.filter (Region.binds .any)).map (·.on)
def qdg (T:List (List Nat)) (ns:List Nat):List (List Nat):=T++[ns++ns.flatMap fun j=>T.getD j []]
def qlX (needs:List (List Nat)):List (List Nat):=needs.foldl qdg []
def qbf (l:List Step) (i:Nat):Bool:=match l[i]? with | some s=>qaz s.op | none=>false
def qdP (l:List Step) (i:Nat):Option Nat:=match l[i]? with | some s=>s.dst | none=>none
def qhQ (l:List Step) (i:Nat):Bool:=match l[i]? with | some s=>reads s.op | none=>false
def qnL (l:List Step) (i:Nat):List Nat:=match l[i]? with | some s=>qlL s | none=>[]
def qmx (l:List Step) (needs:List (List Nat)):Bool :=
 let T:=qlX needs
 let n:=l.length
 needs.length==n &&
 (List.range n).all (fun i=>((needs.getD i []).all fun j=>decide (j<i)) &&
  (List.range i).all (fun j=>(!(qbf l i && qbf l j) || (T.getD i []).contains j) && (match qdP l i with | some d=>qdP l j != some d | none=>true)) &&
  (qnL l i).all (fun t=>(List.range n).all fun j => !(qdP l j==some t) || (T.getD i []).contains j || (!qhQ l i && (T.getD j []).contains i)) && (!qhQ l i || (qdP l i).isSome))
def cnt (n:Nat) (p:Nat→Bool):Nat:=((List.range n).filter p).length
def qfv (l:List Step) (needs:List (List Nat)):List (Nat × Nat × Nat) :=
 let T:=qlX needs
 (List.range l.length).filterMap fun i =>
  match l[i]? with
  | some s =>
    if reads s.op=true then
     let lo:=cnt l.length fun j=>qbf l j && (T.getD i []).contains j
     let hi:=cnt l.length fun j=>qbf l j && !(T.getD j []).contains i
     if lo=hi then none else some (i,lo,hi)
    else none
  | none=>none
def qyZ (E:Env) (ops:Array Oper):ACode :=
 if qmx (ops.toList.map (qaK E .std ops)) (ops.toList.map qbv)=true then .draw (ops.toList.map (qaK E .std ops)) (qfv (ops.toList.map (qaK E .std ops)) (ops.toList.map qbv))
 else if qmx (ops.toList.map (qaK E .qt ops)) (ops.toList.map qbv)=true then .draw (ops.toList.map (qaK E .qt ops)) (qfv (ops.toList.map (qaK E .qt ops)) (ops.toList.map qbv)) else .stuck
def qyv (E:Env) (q:QM) (ops:Array Oper):ACode :=
 if qmx (ops.toList.map (qaK E q ops)) (ops.toList.map qbv)=true then .draw (ops.toList.map (qaK E q ops)) (qfv (ops.toList.map (qaK E q ops)) (ops.toList.map qbv)) else .stuck
theorem qeu {n:Nat} {p q:Nat→Bool} (h:∀ j,j<n→p j=q j):cnt n p=cnt n q:=by
 unfold cnt
 rw[List.filter_congr fun j hj=>h j (by simpa using hj)]
theorem qru {n:Nat} {p q:Nat→Bool} (h:∀ j,j<n→p j=true→q j=true):cnt n p≤cnt n q:=by
 induction n with
 | zero=>exact Nat.le_refl _
 | succ n ih =>
   have ih':=ih fun j hj=>h j (by omega)
   unfold cnt at ih' ⊢
   rw[List.range_succ,List.filter_append,List.filter_append,List.length_append,List.length_append]
   have:([n].filter p).length≤([n].filter q).length:=by
    cases hp:p n with
    | false=>simp[hp]
    | true=>simp[hp,h n (by omega) hp]
   omega
theorem qqw {n i:Nat} {p q:Nat→Bool} (hi:i<n) (hp:p i=false) (hq:q i=true) (h:∀ j,j<n→j≠i→q j=p j):cnt n q=cnt n p+1:=by
 induction n with
 | zero=>omega
 | succ n ih =>
   unfold cnt at *
   rw[List.range_succ,List.filter_append,List.filter_append,List.length_append,List.length_append]
   by_cases hin:i=n
   ·subst hin
    have e:(List.range i).filter q=(List.range i).filter p:=List.filter_congr fun j hj=>h j (by simp at hj;omega) (by simp at hj;omega)
    rw[e]
    simp[hp,hq]
   ·rw[ih (by omega) fun j hj hne=>h j (by omega) hne]
    have:[n].filter q=[n].filter p:=by simp[List.filter,h n (by omega) (fun e=>hin e.symm)]
    rw[this]
    omega
theorem ql8 {α β:Type} {l:List α} {f g:α→List β} (h:∀ a∈l,f a=g a):l.flatMap f=l.flatMap g:=by
 induction l with
 | nil=>rfl
 | cons x xs ih=>rw[List.flatMap_cons,List.flatMap_cons,h x (by simp),ih fun a ha=>h a (by simp[ha])]
theorem qqh:∀ (ns:List (List Nat)) (T0:List (List Nat)),(ns.foldl qdg T0).length=T0.length+ns.length∧(∀ j,j<T0.length→(ns.foldl qdg T0)[j]? = T0[j]?) ∧
  ∀ k x,ns[k]? = some x→(∀ j∈x,j<T0.length+k)→(ns.foldl qdg T0).getD (T0.length+k) []=x++x.flatMap fun j=>(ns.foldl qdg T0).getD j []
 | [],T0=>⟨by simp,fun _ _=>rfl,fun k x e=>by simp at e⟩
 | x :: xs,T0 => by
   obtain⟨h1,h2,h3⟩:=qqh xs (qdg T0 x)
   have hl:(qdg T0 x).length=T0.length+1:=by simp[qdg]
   rw[List.foldl_cons]
   have hold:∀ j,j<T0.length→(xs.foldl qdg (qdg T0 x))[j]? = T0[j]? := fun j hj=>by
    rw[h2 j (by omega)]
    unfold qdg
    rw[List.getElem?_append_left hj]
   refine⟨by rw[h1,hl,List.length_cons];omega,hold,fun k y e hy=>?_⟩
   cases k with
   | zero =>
     simp at e
     subst e
     have e1:(xs.foldl qdg (qdg T0 x))[T0.length]? = some (x++x.flatMap fun j=>T0.getD j []):=by
      rw[h2 T0.length (by omega)]
      unfold qdg
      rw[List.getElem?_append_right (Nat.le_refl _)]
      simp
     rw[Nat.add_zero,List.getD_eq_getElem?_getD,e1,Option.getD_some]
     congr 1
     refine ql8 fun j hj=>?_
     rw[List.getD_eq_getElem?_getD,List.getD_eq_getElem?_getD,hold j (by have:=hy j hj;omega)]
   | succ k =>
     have:=h3 k y (by simpa using e) (fun j hj=>by have:=hy j hj;omega)
     rw[hl] at this
     rw[show T0.length+(k+1)=T0.length+1+k by omega]
     exact this
theorem qri (needs:List (List Nat)) {i:Nat} {ns:List Nat} (e:needs[i]? = some ns) (hlt:∀ j∈ns,j<i):(qlX needs).getD i []=ns++ns.flatMap fun j=>(qlX needs).getD j []:=by
 have:=(qqh needs []).2.2 i ns e (fun j hj=>by have:=hlt j hj;simp;exact this)
 simpa[qlX] using this
theorem qeX {needs:List (List Nat)} (hlt:∀ (i:Nat) (ns:List Nat),needs[i]? = some ns→∀ j∈ns,j<i) {S:Nat→Bool} (hS:∀ (i:Nat) (ns:List Nat),needs[i]? = some ns→S i=true→∀ j∈ns,S j=true) :
  ∀ (m i:Nat),i≤m→∀ (ns:List Nat),needs[i]? = some ns→(∀ j∈ns,S j=true)→∀ j∈(qlX needs).getD i [],S j=true:=by
 intro m
 induction m with
 | zero =>
   intro i hi ns e hn j hj
   rw[qri needs e (hlt i ns e)] at hj
   rcases List.mem_append.1 hj with h1 | h1
   ·exact hn j h1
   ·obtain⟨q,hq,_⟩:=List.mem_flatMap.1 h1
    have:=hlt i ns e q hq
    omega
 | succ m ih =>
   intro i hi ns e hn j hj
   rw[qri needs e (hlt i ns e)] at hj
   rcases List.mem_append.1 hj with h1 | h1
   ·exact hn j h1
   ·obtain⟨q,hq,hjq⟩:=List.mem_flatMap.1 h1
    have hqi:=hlt i ns e q hq
    cases hns:needs[q]? with
    | none =>
      have hlen:(qlX needs).length=needs.length:=by have:=(qqh needs []).1;simpa[qlX] using this
      have hge:needs.length≤q:=by
       rcases Nat.lt_or_ge q needs.length with h | h
       ·rw[List.getElem?_eq_getElem h] at hns;cases hns
       ·exact h
      rw[List.getD_eq_getElem?_getD,List.getElem?_eq_none (by omega)] at hjq
      simp at hjq
    | some nq=>exact ih q (by omega) nq hns (hS q nq hns (hn q hq)) j hjq
theorem qgm (l:List Step) {i:Nat} (hi:i<l.length):cnt l.length (fun j=>qbf l j && decide (j<i+1))=cnt l.length (fun j=>qbf l j && decide (j<i))+(if qbf l i=true then 1 else 0):=by
 cases hl:qbf l i with
 | true =>
   rw[if_pos rfl]
   refine qqw hi (by simp) (by simp[hl]) fun j hj hne=>?_
   have:decide (j<i+1)=decide (j<i):=by
    rw[decide_eq_decide];omega
   rw[this]
 | false =>
   simp only[Bool.false_eq_true,if_false,Nat.add_zero]
   refine qeu fun j hj=>?_
   by_cases hji:j=i
   ·subst hji;simp[hl]
   ·have:decide (j<i+1)=decide (j<i):=by
     rw[decide_eq_decide];omega
    rw[this]
theorem qlq (pure:Nat→Bool) (call:CallT) (L:List Step) (H:List Heap) (tmf:Tmps) (hf:Heap):∀ (l:List Step) (q:Nat) (tm:Tmps) (hs:List Heap) (h:Heap),(∀ j,l[j]? = L[q+j]?) →
  hs.length=cnt L.length (fun j=>qbf L j && decide (j<q))→qds pure call l tm hs h=some (tmf,H,hf) →
   (∀ k,k<hs.length→H[k]? = hs[k]?)∧H[hs.length]? = some h∧H[cnt L.length (fun j=>qbf L j && decide (j<L.length))]? = some hf ∧
   (∀ t,(∀ j s,q≤j→L[j]? = some s→s.dst≠some t)→tm t=tmf t) ∧
   ∀ i s,q≤i→L[i]? = some s→∃ tmi hi hi',H[cnt L.length (fun j=>qbf L j && decide (j<i))]? = some hi∧H[cnt L.length (fun j=>qbf L j && decide (j<i+1))]? = some hi' ∧
    (∀ t,(∀ j s',i≤j→L[j]? = some s'→s'.dst≠some t)→tmi t=tmf t) ∧
    (∀ t,(∀ j s',q≤j→j<i→L[j]? = some s'→s'.dst≠some t)→tmi t=tm t) ∧
    ((qaf s.guard tmi = some false ∧ hi' = hi ∧ ∀ d,s.dst = some d → (∀ j s',i < j → L[j]? = some s' → s'.dst ≠ some d) → tmf d = .tuple []) ∨
      (qaf s.guard tmi=some true∧∃ v,aOp pure call s.op tmi hi=some (.val v,hi')∧∀ d,s.dst=some d→(∀ j s',i<j→L[j]? = some s'→s'.dst≠some d)→tmf d=v))
 | [],q,tm,hs,h,hL,hlen,hr => by
   simp only[qds,Option.some.injEq,Prod.mk.injEq] at hr
   obtain⟨rfl,rfl,rfl⟩:=hr
   have hq:L.length≤q:=by
    have:=hL 0
    simp at this
    omega
   have hc:cnt L.length (fun j=>qbf L j && decide (j<L.length))=hs.length:=by
    rw[hlen]
    refine qeu fun j hj=>?_
    have:decide (j<L.length)=decide (j<q):=by rw[decide_eq_decide];omega
    rw[this]
   refine⟨fun k hk=>List.getElem?_append_left hk,by simp,by rw[hc];simp,fun _ _=>rfl,fun i s hi e=>?_⟩
   have:=(List.getElem?_eq_some_iff.1 e).1
   omega
 | o :: rest,q,tm,hs,h,hL,hlen,hr => by
   have hLq:L[q]? = some o:=by have:=hL 0;simpa using this.symm
   have hqlt:q<L.length:=(List.getElem?_eq_some_iff.1 hLq).1
   have hrest:∀ j,rest[j]? = L[q+1+j]? := fun j=>by have:=hL (j+1);simpa[Nat.add_assoc,Nat.add_comm 1 j] using this
   have hloud:qbf L q=qaz o.op:=by simp[qbf,hLq]
   have hsucc:=qgm L hqlt
   have hlen':(if qaz o.op=true then hs++[h] else hs).length=cnt L.length (fun j=>qbf L j && decide (j<q+1)):=by
    rw[hsucc,hloud,← hlen]
    split<;>simp
   have done:∀ (tm1:Tmps) (h1:Heap) (v1:AVal),tm1=upd tm o.dst v1→(qaz o.op=false→h1=h)→qds pure call rest tm1 (if qaz o.op=true then hs++[h] else hs) h1=some (tmf,H,hf) →
    ((qaf o.guard tm=some false∧h1=h∧v1=.tuple [])∨(qaf o.guard tm=some true∧aOp pure call o.op tm h=some (.val v1,h1))) →
    (∀ k,k<hs.length→H[k]? = hs[k]?)∧H[hs.length]? = some h∧H[cnt L.length (fun j=>qbf L j && decide (j<L.length))]? = some hf ∧
    (∀ t,(∀ j s,q≤j→L[j]? = some s→s.dst≠some t)→tm t=tmf t) ∧
    ∀ i s,q≤i→L[i]? = some s→∃ tmi hi hi',H[cnt L.length (fun j=>qbf L j && decide (j<i))]? = some hi∧H[cnt L.length (fun j=>qbf L j && decide (j<i+1))]? = some hi' ∧
     (∀ t,(∀ j s',i≤j→L[j]? = some s'→s'.dst≠some t)→tmi t=tmf t) ∧
     (∀ t,(∀ j s',q≤j→j<i→L[j]? = some s'→s'.dst≠some t)→tmi t=tm t) ∧
     ((qaf s.guard tmi = some false ∧ hi' = hi ∧ ∀ d,s.dst = some d → (∀ j s',i < j → L[j]? = some s' → s'.dst ≠ some d) → tmf d = .tuple []) ∨
       (qaf s.guard tmi=some true∧∃ v,aOp pure call s.op tmi hi=some (.val v,hi')∧∀ d,s.dst=some d→(∀ j s',i<j→L[j]? = some s'→s'.dst≠some d)→tmf d=v)):=by
    intro tm1 h1 v1 htm1 hq1 hr1 hway
    obtain⟨g1,g2,g3,g4,g5⟩:=qlq pure call L H tmf hf rest (q+1) tm1 _ h1 hrest hlen' hr1
    have hold:∀ k,k<hs.length→H[k]? = hs[k]? := fun k hk=>by
     rw[g1 k (by split<;>first | (simp;omega) | exact hk)]
     split
     ·rw[List.getElem?_append_left hk]
     ·rfl
    have hnow:H[hs.length]? = some h:=by
     by_cases hl:qaz o.op=true
     ·rw[if_pos hl] at g1
      rw[g1 hs.length (by simp)]
      simp
     ·rw[if_neg hl] at g2
      rw[g2,hq1 (by simpa using hl)]
    have htm:∀ t,o.dst≠some t→tm1 t=tm t:=fun t ht=>by
     rw[htm1]
     cases hd:o.dst with
     | none=>rfl
     | some d =>
       have:t≠d:=fun e=>ht (by rw[hd,e])
       simp[upd,this]
    refine⟨hold,hnow,g3,fun t ht=>?_,fun i s hi e=>?_⟩
    ·rw[← htm t (ht q o (Nat.le_refl _) hLq)]
     exact g4 t fun j s hj es=>ht j s (by omega) es
    ·by_cases hiq:i=q
     ·subst hiq
      rw[hLq] at e
      injection e with e
      subst e
      refine⟨tm,h,h1,by rw[← hlen];exact hnow,by rw[← hlen'];exact g2,fun t ht=>?_,?_⟩
      ·rw[← htm t (ht i o (Nat.le_refl _) hLq)]
       exact g4 t fun j s hj es=>ht j s (by omega) es
      ·refine⟨fun _ _=>rfl,?_⟩
       have hdst:∀ d,o.dst=some d→(∀ j s',i<j→L[j]? = some s'→s'.dst≠some d)→tmf d=v1:=fun d hd hn=>by
        rw[← g4 d fun j s hj es=>hn j s (by omega) es,htm1,hd]
        simp[upd]
       rcases hway with ⟨w1,w2,w3⟩ | ⟨w1,w2⟩
       ·exact .inl ⟨w1,w2,fun d hd hn=>by rw[hdst d hd hn,w3]⟩
       ·exact .inr ⟨w1,v1,w2,hdst⟩
     ·obtain⟨tmi,hi1,hi2,a1,a2,a3,a4,a5⟩:=g5 i s (by omega) e
      refine⟨tmi,hi1,hi2,a1,a2,a3,fun t ht=>?_,a5⟩
      rw[a4 t fun j s' hj hji es=>ht j s' (by omega) hji es]
      exact htm t (ht q o (Nat.le_refl _) (by omega) hLq)
   simp only[qds] at hr
   split at hr
   ·rename_i hw
    split at hr
    ·rename_i v h1 hop
     exact done _ h1 v rfl (fun hl=>(qm2 pure call hl hop).1) hr (.inr ⟨hw,hop⟩)
    ·cases hr
   ·rename_i hw
    exact done _ h (.tuple []) rfl (fun _=>rfl) hr (.inl ⟨hw,rfl,rfl⟩)
   ·cases hr
end Go.Abs
