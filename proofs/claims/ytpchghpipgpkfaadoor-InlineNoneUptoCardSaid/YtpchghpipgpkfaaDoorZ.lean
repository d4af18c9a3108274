/-
  A machine that computes what the abstract machine says, for examples that are fixed: what it finds, the abstract machine finds. Conditions: none.
-/
import Derived.Test.YtpchghpipgpkfaaDoorAbsB
set_option linter.unusedVariables false
set_option linter.unusedSimpArgs false
namespace Go.Abs
mutual
def eqV:AVal→AVal→Bool
 | .junk,.junk=>true
 | .bool a,.bool b=>a==b
 | .int k n,.int k' n'=>decide (k=k') && decide (n=n')
 | .str a,.str b=>decide (a=b)
 | .list xs o,.list ys o'=>qrU xs ys && decide (o=o')
 | .ref a b c,.ref a' b' c'=>decide (a=a') && decide (b=b') && decide (c=c')
 | .vec a b,.vec a' b'=>decide (a=a') && decide (b=b')
 | .ptr a,.ptr b=>decide (a=b)
 | .vptr cs o,.vptr cs' o'=>qrU cs cs' && decide (o=o')
 | .map a,.map b=>decide (a=b)
 | .func f a b,.func f' a' b'=>decide (f=f') && qrU a a' && qrU b b'
 | .nilFunc,.nilFunc=>true
 | .iface t v,.iface t' v'=>decide (t=t') && eqV v v'
 | .nilIface,.nilIface=>true
 | .agg cs,.agg cs'=>qrU cs cs'
 | .tuple cs,.tuple cs'=>qrU cs cs'
 | _,_=>false
def qrU:List AVal→List AVal→Bool
 | [],[]=>true
 | x::xs,y::ys=>eqV x y && qrU xs ys
 | _,_=>false
end
mutual
theorem qjR:∀ {x y:AVal},eqV x y=true→x=y:=by
 intro x y h
 cases x<;>cases y<;>simp only[eqV,Bool.and_eq_true,decide_eq_true_eq,beq_iff_eq,Bool.false_eq_true] at h
 case junk.junk=>rfl
 case bool.bool=>rw[h]
 case int.int=>rw[h.1,h.2]
 case str.str=>rw[h]
 case list.list=>rw[qeO h.1,h.2]
 case ref.ref=>rw[h.1.1,h.1.2,h.2]
 case vec.vec=>rw[h.1,h.2]
 case ptr.ptr=>rw[h]
 case vptr.vptr=>rw[qeO h.1,h.2]
 case map.map=>rw[h]
 case func.func=>rw[h.1.1,qeO h.1.2,qeO h.2]
 case nilFunc.nilFunc=>rfl
 case iface.iface=>rw[h.1,qjR h.2]
 case nilIface.nilIface=>rfl
 case agg.agg=>rw[qeO h]
 case tuple.tuple=>rw[qeO h]
theorem qeO:∀ {xs ys:List AVal},qrU xs ys=true→xs=ys
 | [],[],_=>rfl
 | x :: xs,y :: ys,h => by
   rw[qrU,Bool.and_eq_true] at h
   rw[qjR h.1,qeO h.2]
 | [],y::ys,h=>by simp[qrU] at h
 | x::xs,[],h=>by simp[qrU] at h
end
def qy8:List (AVal × AVal)→List (AVal × AVal)→Bool
 | [],[]=>true
 | x::xs,y::ys=>eqV x.1 y.1 && eqV x.2 y.2 && qy8 xs ys
 | _,_=>false
theorem qs9:∀ {xs ys:List (AVal × AVal)},qy8 xs ys=true→xs=ys
 | [],[],_=>rfl
 | x :: xs,y :: ys,h => by
   rw[qy8,Bool.and_eq_true,Bool.and_eq_true] at h
   obtain⟨⟨h1,h2⟩,h3⟩:=h
   obtain⟨a,b⟩:=x
   obtain⟨c,d⟩:=y
   have g1:=qjR h1
   have g2:=qjR h2
   dsimp only at g1 g2
   rw[g1,g2,qs9 h3]
 | [],y::ys,h=>by simp[qy8] at h
 | x::xs,[],h=>by simp[qy8] at h
def eqO:AObj→AObj→Bool
 | .gone,.gone=>true
 | .box a,.box b=>qrU a b
 | .map a,.map b=>qy8 a b
 | .tail a b,.tail c d=>decide (a=c) && decide (b=d)
 | .vec a b,.vec c d=>qrU a c && decide (b=d)
 | _,_=>false
theorem qzt:∀ {x y:AObj},eqO x y=true→x=y:=by
 intro x y h
 cases x<;>cases y<;>simp only[eqO,Bool.and_eq_true,decide_eq_true_eq,Bool.false_eq_true] at h
 case gone.gone=>rfl
 case box.box=>rw[qeO h]
 case map.map=>rw[qs9 h]
 case tail.tail=>rw[h.1,h.2]
 case vec.vec=>rw[qeO h.1,h.2]
def eqH:Heap→Heap→Bool
 | [],[]=>true
 | x::xs,y::ys=>eqO x y && eqH xs ys
 | _,_=>false
theorem qta:∀ {xs ys:Heap},eqH xs ys=true→xs=ys
 | [],[],_=>rfl
 | x :: xs,y :: ys,h => by
   rw[eqH,Bool.and_eq_true] at h
   rw[qzt h.1,qta h.2]
 | [],y::ys,h=>by simp[eqH] at h
 | x::xs,[],h=>by simp[eqH] at h
structure CS where
 l:List (Nat × AVal)
 d:AVal
 h:Heap
def CS.tm (s:CS):Tmps:=fun t=>(s.l.lookup t).getD s.d
def CS.st (s:CS):St:=⟨s.tm,s.h⟩
def CS.put (s:CS) (d:Option Nat) (v:AVal) (h:Heap):CS :=
 match d with
 | none=>⟨s.l,s.d,h⟩
 | some t=>⟨(t,v)::s.l,s.d,h⟩
theorem qqd (t:Nat) (v:AVal) (l:List (Nat × AVal)) (d:AVal) (h:Heap):(CS.mk ((t,v)::l) d h).tm=fun i=>if i=t then v else (CS.mk l d h).tm i:=by
 funext i
 unfold CS.tm
 dsimp only
 rw[List.lookup_cons]
 by_cases hi:i=t
 ·subst hi
  simp
 ·rw[if_neg hi]
  have:(i==t)=false:=by simpa using hi
  rw[this]
theorem qgJ (s:CS) (d:Option Nat) (v:AVal) (h:Heap):(s.put d v h).st=⟨upd s.tm d v,h⟩:=by
 cases d with
 | none=>rfl
 | some t =>
   unfold CS.put CS.st
   dsimp only
   rw[qqd]
   rfl
def CS.mapV (f:AVal→AVal) (g:Heap) (s:CS):CS:=⟨s.l.map fun p=>(p.1,f p.2),f s.d,g⟩
theorem qtP (f:AVal→AVal) (g:Heap) (s:CS):(s.mapV f g).st=⟨fun i=>f (s.tm i),g⟩:=by
 unfold CS.mapV CS.st
 dsimp only
 congr 1
 funext i
 unfold CS.tm
 dsimp only
 induction s.l with
 | nil=>rfl
 | cons p l ih =>
   obtain⟨t,v⟩:=p
   rw[List.map_cons,List.lookup_cons,List.lookup_cons]
   cases (i==t) with
   | true=>rfl
   | false=>exact ih
def CS.only (keep:List Nat) (f:Nat→AVal) (h:Heap):CS:=⟨keep.map fun t=>(t,f t),.junk,h⟩
theorem qpY (keep:List Nat) (f:Nat→AVal) (h:Heap):(CS.only keep f h).st=⟨fun t=>if t∈keep then f t else .junk,h⟩:=by
 unfold CS.only CS.st
 congr 1
 induction keep with
 | nil=>funext i;rfl
 | cons k ks ih =>
   rw[List.map_cons,qqd,ih]
   funext i
   by_cases hi:i=k
   ·subst hi
    simp
   ·simp[hi]
def cgc (n:Nat) (keep:List Nat) (s:CS):CS :=
 if qlM keep=true then CS.only (keep.drop 1) s.tm s.h
 else if n≤s.h.length then
  (match qgx n keep s.st with
  | ids=>CS.only keep (fun t=>ren (qeq n ids) (s.tm t)) ((s.h.take n).map (qeH (qeq n ids))++ids.map fun id=>qeH (qeq n ids) ((s.h[id]?).getD .gone)))
 else s
theorem qlr (n:Nat) (keep:List Nat) (s:CS):(cgc n keep s).st=gc n keep s.st:=by
 unfold cgc gc
 split
 ·rw[qpY]
  rfl
 ·show CS.st (if n≤s.h.length then _ else _)=if n≤s.h.length then _ else _
  split
  ·rw[qpY]
   rfl
  ·rfl
def qy7 (n:Nat) (keep:List Nat) (r:AExit × CS):AExit × CS :=
 match r.1 with
 | .panic _=>r
 | e=>(e,cgc n keep r.2)
def qsy (r:AExit × CS):AExit × St:=(r.1,r.2.st)
theorem qpK (n:Nat) (keep:List Nat) (r:AExit × CS):qsy (qy7 n keep r)=gcE n keep (qsy r):=by
 obtain⟨e,s⟩:=r
 cases e<;>unfold qy7 gcE qsy<;>dsimp only<;>rw[qlr]
def Sim (x:Option (AExit × CS)) (y:Option (AExit × St)):Prop:=∀ r,x=some r→y=some (qsy r)
theorem Sim.map_gc {x:Option (AExit × CS)} {y:Option (AExit × St)} (h:Sim x y) (n:Nat) (keep:List Nat):Sim (x.map (qy7 n keep)) (y.map (gcE n keep)):=by
 intro r hr
 obtain⟨q,hq,rfl⟩:=Option.map_eq_some_iff.1 hr
 rw[h q hq,Option.map_some,qpK]
theorem Sim.le {x:Option (AExit × CS)} {y z:Option (AExit × St)} (h:Sim x y) (hl:Le y z):Sim x z:=fun r hr=>hl _ (h r hr)
def qvb (pure:Nat→Bool) (call:CallT):List Step→CS→Option (AExit × CS)
 | [],s=>some (.normal,s)
 | o :: rest,s =>
   match qae o.guard s.tm with
   | some true =>
     (match aOp pure call o.op s.tm s.h with
     | some (.val v,h)=>qvb pure call rest (s.put o.dst v h)
     | some (.panic v,h)=>some (.panic v,s.put none .junk h)
     | none=>none)
   | some false=>qvb pure call rest (s.put o.dst (.tuple []) s.h)
   | none=>none
theorem qf2 (pure:Nat→Bool) (call:CallT):∀ (l:List Step) (s:CS),Sim (qvb pure call l s) (qb8 pure call l s.st)
 | [],s => fun r hr => by
   simp only[qvb,Option.some.injEq] at hr
   subst hr
   rfl
 | o :: rest,s => fun r hr => by
   rw[qvb] at hr
   unfold qb8
   show (match qae o.guard s.tm with | some true=>_ | some false=>_ | none=>_)=_
   cases hw:qae o.guard s.tm with
   | none=>rw[hw] at hr;cases hr
   | some b =>
     rw[hw] at hr
     cases b with
     | false =>
       dsimp only at hr ⊢
       have:=qf2 pure call rest _ r hr
       rw[qgJ] at this
       exact this
     | true =>
       dsimp only at hr ⊢
       show (match aOp pure call o.op s.tm s.h with | some (.val v,h)=>_ | some (.panic v,h)=>_ | none=>_)=_
       cases ho:aOp pure call o.op s.tm s.h with
       | none=>rw[ho] at hr;cases hr
       | some q =>
         rw[ho] at hr
         obtain⟨q,h'⟩:=q
         cases q with
         | val v =>
           dsimp only at hr ⊢
           have:=qf2 pure call rest _ r hr
           rw[qgJ] at this
           exact this
         | panic v =>
           dsimp only at hr ⊢
           injection hr with hr
           rw[← hr]
           rfl
def qrJ (pure:Nat→Bool) (call:CallT):List Step→CS→Option (AExit × CS)
 | [],s=>some (.normal,s)
 | o :: rest,s =>
   match qae o.guard s.tm with
   | some true =>
     (match qhT pure call o.op s.tm s.h with
     | some (.val v,h)=>qrJ pure call rest (s.put o.dst v h)
     | some (.panic v,h)=>some (.panic v,s.put none .junk h)
     | none=>none)
   | some false=>qrJ pure call rest (s.put o.dst (.tuple []) s.h)
   | none=>none
theorem qjD (pure:Nat→Bool) (call:CallT):∀ (l:List Step) (s:CS),Sim (qrJ pure call l s) (qd1 pure call l s.st)
 | [],s => fun r hr => by
   simp only[qrJ,Option.some.injEq] at hr
   subst hr
   rfl
 | o :: rest,s => fun r hr => by
   rw[qrJ] at hr
   unfold qd1
   show (match qae o.guard s.tm with | some true=>_ | some false=>_ | none=>_)=_
   cases hw:qae o.guard s.tm with
   | none=>rw[hw] at hr;cases hr
   | some b =>
     rw[hw] at hr
     cases b with
     | false =>
       dsimp only at hr ⊢
       have:=qjD pure call rest _ r hr
       rw[qgJ] at this
       exact this
     | true =>
       dsimp only at hr ⊢
       show (match qhT pure call o.op s.tm s.h with | some (.val v,h)=>_ | some (.panic v,h)=>_ | none=>_)=_
       cases ho:qhT pure call o.op s.tm s.h with
       | none=>rw[ho] at hr;cases hr
       | some q =>
         rw[ho] at hr
         obtain⟨q,h'⟩:=q
         cases q with
         | val v =>
           dsimp only at hr ⊢
           have:=qjD pure call rest _ r hr
           rw[qgJ] at this
           exact this
         | panic v =>
           dsimp only at hr ⊢
           injection hr with hr
           rw[← hr]
           rfl
def qrI (pure:Nat→Bool) (call:CallT):List Step→CS→List Heap→Option (CS × List Heap)
 | [],s,hs=>some (s,hs++[s.h])
 | o :: rest,s,hs =>
   match qae o.guard s.tm with
   | some true =>
     (match aOp pure call o.op s.tm s.h with
     | some (.val v,h')=>qrI pure call rest (s.put o.dst v h') (if qay o.op=true then hs++[s.h] else hs)
     | _=>none)
   | some false=>qrI pure call rest (s.put o.dst (.tuple []) s.h) (if qay o.op=true then hs++[s.h] else hs)
   | none=>none
theorem qjC (pure:Nat→Bool) (call:CallT):∀ (l:List Step) (s:CS) (hs:List Heap) (s':CS) (hs':List Heap),qrI pure call l s hs=some (s',hs')→qc3 pure call l s.tm hs s.h=some (s'.tm,hs',s'.h)
 | [],s,hs,s',hs',hr => by
   simp only[qrI,Option.some.injEq,Prod.mk.injEq] at hr
   obtain⟨rfl,rfl⟩:=hr
   rfl
 | o :: rest,s,hs,s',hs',hr => by
   rw[qrI] at hr
   unfold qc3
   cases hw:qae o.guard s.tm with
   | none=>rw[hw] at hr;cases hr
   | some b =>
     rw[hw] at hr
     cases b with
     | false =>
       dsimp only at hr ⊢
       have:=qjC pure call rest _ _ s' hs' hr
       have hp:=qgJ s o.dst (.tuple []) s.h
       unfold CS.st at hp
       injection hp with hp1 hp2
       rw[hp1,hp2] at this
       exact this
     | true =>
       dsimp only at hr ⊢
       cases ho:aOp pure call o.op s.tm s.h with
       | none=>rw[ho] at hr;cases hr
       | some q =>
         rw[ho] at hr
         obtain⟨q,h'⟩:=q
         cases q with
         | val v =>
           dsimp only at hr ⊢
           have:=qjC pure call rest _ _ s' hs' hr
           have hp:=qgJ s o.dst v h'
           unfold CS.st at hp
           injection hp with hp1 hp2
           rw[hp1,hp2] at this
           exact this
         | panic v=>cases hr
def qqW:AExit→Bool
 | .normal=>true
 | _=>false
theorem qn4 {e:AExit} (h:qqW e=true):e=.normal:=by cases e<;>simp[qqW] at h;rfl
def qsQ (l:List Step) (tm:Tmps) (hs:List Heap) (c:Nat × Nat × Nat):Bool :=
 match l[c.1]? with
 | some ⟨some d,g,o⟩ =>
   (match qae g tm with
   | some true=>((hs.drop c.2.1).take (c.2.2+1-c.2.1)).all fun h=>match aOp (fun _=>false) qew o tm h with | some (.val v,h')=>eqV v (tm d) && eqH h' h | _=>false
   | _=>true)
 | _=>true
theorem qsR {l:List Step} {tm:Tmps} {hs:List Heap} {c:Nat × Nat × Nat} (h:qsQ l tm hs c=true):qjG l tm hs c:=by
 intro s d h1 h2 h3 k hp hk1 hk2 hk
 unfold qsQ at h
 obtain⟨d',g,o⟩:=s
 dsimp only at h2
 subst h2
 dsimp only at h3
 rw[h1] at h
 dsimp only at h
 rw[h3] at h
 dsimp only at h
 rw[List.all_eq_true] at h
 have hm:hp∈(hs.drop c.2.1).take (c.2.2+1-c.2.1):=by
  refine List.mem_of_getElem? (i:=k-c.2.1) ?_
  rw[List.getElem?_take,if_pos (by omega),List.getElem?_drop,show c.2.1+(k-c.2.1)=k by omega]
  exact hk
 have:=h hp hm
 dsimp only
 split at this
 ·rename_i v h' he
  rw[Bool.and_eq_true] at this
  rw[he,qjR this.1,qta this.2]
 ·cases this
def qy6 (pure:Nat→Bool) (call:CallT) (l:List Step) (checks:List (Nat × Nat × Nat)) (s:CS):Option (AExit × CS) :=
 match qrI pure call l s [] with
 | some (s',hs)=>if checks.all (qsQ l s'.tm hs)=true then some (.normal,s') else none
 | none=>none
theorem quS (pure:Nat→Bool) (call:CallT) (l:List Step) (checks:List (Nat × Nat × Nat)) (s:CS):Sim (qy6 pure call l checks s) (qgL pure call l checks s.st):=by
 intro r hr
 unfold qy6 at hr
 unfold qgL
 split at hr
 ·rename_i s' hs he
  have h1:=qjC pure call l s [] s' hs he
  show (match qc3 pure call l s.tm [] s.h with | some (tm,hs,h)=>_ | none=>_)=_
  rw[h1]
  dsimp only
  split at hr
  ·rename_i hc
   rw[if_pos fun c hc'=>qsR (List.all_eq_true.1 hc c hc')]
   injection hr with hr
   rw[← hr]
   rfl
  ·cases hr
 ·cases hr
def eqR (n:Nat) (keep:List Nat) (a b:AExit × CS):Bool :=
 qqW a.1 && qqW b.1 && !(qlM keep) && decide (n≤a.2.h.length) && decide (n≤b.2.h.length) &&
  keep.all (fun t=>eqV ((cgc n keep a.2).tm t) ((cgc n keep b.2).tm t)) && eqH (cgc n keep a.2).h (cgc n keep b.2).h
theorem qzu {n:Nat} {keep:List Nat} {a b:AExit × CS} (h:eqR n keep a b=true):gcE n keep (qsy a)=gcE n keep (qsy b):=by
 unfold eqR at h
 simp only[Bool.and_eq_true,decide_eq_true_eq,Bool.not_eq_true'] at h
 obtain⟨⟨⟨⟨⟨⟨h1,h2⟩,h3⟩,h4⟩,h5⟩,h6⟩,h7⟩:=h
 obtain⟨e1,s1⟩:=a
 obtain⟨e2,s2⟩:=b
 dsimp only at *
 have e1':=qn4 h1
 have e2':=qn4 h2
 subst e1'
 subst e2'
 unfold gcE qsy
 dsimp only
 rw[← qlr,← qlr]
 have hh:=qta h7
 have ht:(cgc n keep s1).tm=(cgc n keep s2).tm:=by
  funext t
  by_cases hk:t∈keep
  ·exact qjR (List.all_eq_true.1 h6 t hk)
  ·have g:∀ s:CS,n≤s.h.length→(cgc n keep s).tm t=.junk:=by
    intro s hs
    have:=qpY keep (fun t=>ren (qeq n (qgx n keep s.st)) (s.tm t)) ((s.h.take n).map (qeH (qeq n (qgx n keep s.st)))++(qgx n keep s.st).map fun id=>qeH (qeq n (qgx n keep s.st)) ((s.h[id]?).getD .gone))
    unfold CS.st at this
    injection this with this _
    unfold cgc
    rw[h3,if_neg (by simp),if_pos hs]
    exact (congrFun this t).trans (if_neg hk)
   rw[g s1 h4,g s2 h5]
 unfold CS.st
 rw[hh,ht]
def qAg (keep:List Nat) (l:List Step) (needs:List (List Nat)) (s:CS):Option (AExit × CS) :=
 match qm5 l needs with
 | []=>none
 | σ :: rest =>
   match qvb (fun _=>false) qew σ s with
   | some r=>if (rest.all fun σ'=>match qvb (fun _=>false) qew σ' s with | some r'=>eqR s.h.length keep r' r | none=>false)=true then some (qy7 s.h.length keep r) else none
   | none=>none
theorem qu9 (keep:List Nat) (l:List Step) (needs:List (List Nat)) (s:CS):Sim (qAg keep l needs s) (quX keep l needs s.st):=by
 intro r hr
 unfold qAg at hr
 unfold quX
 split at hr
 ·cases hr
 ·rename_i σ rest hl
  split at hr
  ·rename_i r0 h0
   split at hr
   ·rename_i ha
    injection hr with hr
    have key:∀ σ'∈qm5 l needs,(qb8 (fun _=>false) qew σ' s.st).map (gcE s.h.length keep)=some (qsy r):=by
     intro σ' hσ
     rw[hl] at hσ
     rcases List.mem_cons.1 hσ with rfl | hσ
     ·rw[qf2 _ _ _ _ _ h0,← hr,qpK]
      rfl
     ·have:=List.all_eq_true.1 ha σ' hσ
      split at this
      ·rename_i r' he
       rw[qf2 _ _ _ _ _ he,Option.map_some,qzu this,← hr,qpK]
      ·cases this
    have hex:∃ r,∀ σ∈qm5 l needs,(qb8 (fun _=>false) qew σ s.st).map (gcE s.st.h.length keep)=some r:=⟨_,key⟩
    rw[dif_pos hex]
    have h1:=Classical.choose_spec hex σ (by rw[hl];simp)
    have h2:=key σ (by rw[hl];simp)
    exact h1.symm.trans h2
   ·cases hr
  ·cases hr
def qqx (id sz:Nat) (cs:List AVal) (s:CS):CS :=
 if qaw cs=true∧cs.all leaf=true then s.mapV (frz id sz cs) ((s.h.set id .gone).map (qiT id sz cs)) else s
theorem qnz (id sz:Nat) (cs:List AVal) (s:CS):(qqx id sz cs s).st=qiS id sz cs s.st:=by
 unfold qqx qiS
 split
 ·rw[qtP]
  rfl
 ·rfl
def qmu (t:Nat) (s:CS):CS :=
 match s.tm t with
 | .ptr (some (id,0))=>(match s.h[id]? with | some (.box cs)=>qqx id 0 (cs.map wipeCell) s | _=>s)
 | .vec id _=>(match s.h[id]? with | some (.vec cs sz)=>qqx id sz (cs.map wipeCell) s | _=>s)
 | _=>s
theorem qrN (t:Nat) (s:CS):(qmu t s).st=qe0 t s.st:=by
 unfold qmu qe0
 show CS.st _=match s.tm t with | .ptr (some (id,0))=>(match s.h[id]? with | some (.box cs)=>qiS id 0 (cs.map wipeCell) s.st | _=>s.st) | .vec id _=>(match s.h[id]? with | some (.vec cs sz)=>qiS id sz (cs.map wipeCell) s.st | _=>s.st) | _=>s.st
 split
 ·split
  ·exact qnz _ _ _ _
  ·rfl
 ·split
  ·exact qnz _ _ _ _
  ·rfl
 ·rfl
def qvg (s:CS):CS:=s.mapV (viewV s.h) (s.h.map fun _=>.gone)
theorem qvh (s:CS):(qvg s).st=qpc s.st:=by
 unfold qvg qpc
 rw[qtP]
 rfl
def qsU (body:CS→Option (AExit × CS)):Nat→CS→Option (AExit × CS)
 | 0,_=>none
 | n + 1,s =>
   match body s with
   | some (.normal,s')=>qsU body n s'
   | r=>r
theorem qjB {b1:CS→Option (AExit × CS)} {b2:St→Option (AExit × St)} (hb:∀ s,Sim (b1 s) (b2 s.st)):∀ n s,Sim (qsU b1 n s) (qdx b2 n s.st)
 | 0,s=>fun r hr=>by cases hr
 | n + 1,s => fun r hr => by
   rw[qsU] at hr
   rw[qdx]
   cases hx:b1 s with
   | none=>rw[hx] at hr;cases hr
   | some x =>
     rw[hb s x hx]
     rw[hx] at hr
     obtain⟨e,s'⟩:=x
     cases e with
     | normal=>exact qjB hb n s' r hr
     | _=>injection hr with hr;rw[← hr];rfl
def qhb (id:Nat) (r:Option (AExit × CS)):Option (AExit × CS) :=
 match r with
 | some (.exit id',s')=>if id'=id then some (.normal,s') else some (.exit id',s')
 | r=>r
theorem qhX {id:Nat} {x:Option (AExit × CS)} {y:Option (AExit × St)} (h:Sim x y):Sim (qhb id x) (qdu id y):=by
 intro r hr
 cases hx:x with
 | none=>rw[hx] at hr;cases hr
 | some q =>
   rw[h q hx]
   rw[hx] at hr
   obtain⟨e,s'⟩:=q
   cases e with
   | exit id' =>
     unfold qhb at hr
     unfold qdu qsy
     dsimp only at hr ⊢
     split at hr
     ·rename_i hid
      rw[if_pos hid]
      injection hr with hr
      rw[← hr]
     ·rename_i hid
      rw[if_neg hid]
      injection hr with hr
      rw[← hr]
   | _=>injection hr with hr;rw[← hr];rfl
def qw6 (run:CS→Option (AExit × CS)) (r:Option (AExit × CS)):Option (AExit × CS) :=
 match r with
 | some (.normal,s2)=>run s2
 | r=>r
theorem qny {r1:CS→Option (AExit × CS)} {r2:St→Option (AExit × St)} (hr:∀ s,Sim (r1 s) (r2 s.st)) {x:Option (AExit × CS)} {y:Option (AExit × St)} (h:Sim x y):Sim (qw6 r1 x) (qkG r2 y):=by
 intro r hq
 cases hx:x with
 | none=>rw[hx] at hq;cases hq
 | some q =>
   rw[h q hx]
   rw[hx] at hq
   obtain⟨e,s'⟩:=q
   cases e with
   | normal=>exact hr s' r hq
   | _=>injection hq with hq;rw[← hq];rfl
def qqv (ops:List Step→CS→Option (AExit × CS)) (n:Nat) (k:RangeK) (runB:CS→Option (AExit × CS)) (e:AVal × AVal) (s:CS):Option (AExit × CS) :=
 if qqX n k s.st=true then
  match ops k.r1 (s.put (some k.dn) (.tuple [.bool true,e.1,e.2]) s.h) with
  | some (.normal,s1) =>
    if qqX n k s1.st=true then
     (match opd s1.tm k.c with
     | .bool true=>qhb k.id2 (qw6 runB (ops k.r2 (s1.put k.de (.tuple [e.1,e.2]) s1.h)))
     | _=>none)
    else none
  | _=>none
 else none
theorem qrL {o1:List Step→CS→Option (AExit × CS)} {o2:List Step→St→Option (AExit × St)} (ho:∀ l s,Sim (o1 l s) (o2 l s.st)) {b1:CS→Option (AExit × CS)} {b2:St→Option (AExit × St)} (hb:∀ s,Sim (b1 s) (b2 s.st)) (n:Nat) (k:RangeK) (e:AVal × AVal) (s:CS) :
  Sim (qqv o1 n k b1 e s) (qbi o2 n k b2 e s.st):=by
 intro r hr
 unfold qqv at hr
 unfold qbi
 split at hr
 case isFalse=>cases hr
 rename_i hit
 rw[if_pos hit]
 have hp:=qgJ s (some k.dn) (.tuple [.bool true,e.1,e.2]) s.h
 split at hr
 case h_2=>cases hr
 rename_i s1 h1
 have g1:=ho _ _ _ h1
 rw[hp] at g1
 show (match o2 k.r1 ⟨upd s.tm (some k.dn) (.tuple [.bool true,e.1,e.2]),s.h⟩ with | some (.normal,s1)=>_ | _=>none)=_
 rw[g1]
 dsimp only[qsy]
 split at hr
 case isFalse=>cases hr
 rename_i hit2
 rw[if_pos hit2]
 split at hr
 case h_2=>cases hr
 rename_i hc
 show (match opd s1.tm k.c with | .bool true=>_ | _=>none)=_
 rw[hc]
 dsimp only
 have hp2:=qgJ s1 k.de (.tuple [e.1,e.2]) s1.h
 have g2:=ho k.r2 (s1.put k.de (.tuple [e.1,e.2]) s1.h)
 rw[hp2] at g2
 exact qhX (qny hb g2) r hr
def qAf (ops:List Step→CS→Option (AExit × CS)) (n:Nat) (k:RangeK) (s:CS):Option (AExit × CS) :=
 if qqX n k s.st=true then
  match ops k.r1 (s.put (some k.dn) (.tuple [.bool false]) s.h) with
  | some (.normal,s1)=>(match opd s1.tm k.c with | .bool false=>some (.normal,s1) | _=>none)
  | _=>none
 else none
theorem qu8 {o1:List Step→CS→Option (AExit × CS)} {o2:List Step→St→Option (AExit × St)} (ho:∀ l s,Sim (o1 l s) (o2 l s.st)) (n:Nat) (k:RangeK) (s:CS):Sim (qAf o1 n k s) (qbJ o2 n k s.st):=by
 intro r hr
 unfold qAf at hr
 unfold qbJ
 split at hr
 case isFalse=>cases hr
 rename_i hit
 rw[if_pos hit]
 have hp:=qgJ s (some k.dn) (.tuple [.bool false]) s.h
 split at hr
 case h_2=>cases hr
 rename_i s1 h1
 have g1:=ho _ _ _ h1
 rw[hp] at g1
 show (match o2 k.r1 ⟨upd s.tm (some k.dn) (.tuple [.bool false]),s.h⟩ with | some (.normal,s1)=>_ | _=>none)=_
 rw[g1]
 dsimp only[qsy]
 split at hr
 case h_2=>cases hr
 rename_i hc
 show (match opd s1.tm k.c with | .bool false=>_ | _=>none)=_
 rw[hc]
 injection hr with hr
 rw[← hr]
def qw5 (ops:List Step→CS→Option (AExit × CS)) (n:Nat) (k:RangeK) (runB:CS→Option (AExit × CS)):List (AVal × AVal)→CS→Option (AExit × CS)
 | [],s=>qAf ops n k (cgc (n+1) k.kr s)
 | e :: es,s =>
   match qqv ops n k runB e (cgc (n+1) k.kr s) with
   | some (.normal,s')=>qw5 ops n k runB es s'
   | r=>qhb k.id r
theorem qqw {o1:List Step→CS→Option (AExit × CS)} {o2:List Step→St→Option (AExit × St)} (ho:∀ l s,Sim (o1 l s) (o2 l s.st)) {b1:CS→Option (AExit × CS)} {b2:St→Option (AExit × St)} (hb:∀ s,Sim (b1 s) (b2 s.st)) (n:Nat) (k:RangeK) :
  ∀ (es:List (AVal × AVal)) (s:CS),Sim (qw5 o1 n k b1 es s) (qbj o2 n k b2 es s.st)
 | [],s => fun r hr => by
   rw[qw5] at hr
   rw[qbj,← qlr]
   exact qu8 ho n k _ r hr
 | e :: es,s => fun r hr => by
   rw[qw5] at hr
   rw[qbj,← qlr]
   cases hx:qqv o1 n k b1 e (cgc (n+1) k.kr s) with
   | none=>rw[hx] at hr;cases hr
   | some x =>
     have g:=qrL ho hb n k e _ x hx
     rw[g]
     rw[hx] at hr
     obtain⟨q,s'⟩:=x
     cases q with
     | normal=>exact qqw ho hb n k es s' r hr
     | exit j=>exact qhX (x:=some (.exit j,s')) (y:=some (.exit j,s'.st)) (fun r hr=>by injection hr with hr;rw[← hr];rfl) r hr
     | ret=>injection hr with hr;rw[← hr];rfl
     | panic v=>injection hr with hr;rw[← hr];rfl
def qpI (ops:List Step→CS→Option (AExit × CS)) (k:RangeK) (runB runC:CS→Option (AExit × CS)) (s:CS):Option (AExit × CS) :=
 match ops k.pre s with
 | some (.normal,s1) =>
   (match qcu k.str (opd s1.tm k.m) s1.h with
   | some es=>if k.str=true∨es.length≤1 then
    (match qw5 ops s1.h.length k runB es (s1.put (some k.it) (.ptr (some (s1.h.length,0))) (qk3 (opd s1.tm k.m) s1.h)) with
    | some (.normal,s2)=>runC ⟨s2.l,s2.d,qci (opd s1.tm k.m) s1.h s2.h⟩
    | some (e,s2)=>some (e,⟨s2.l,s2.d,qci (opd s1.tm k.m) s1.h s2.h⟩)
    | none=>none).map (qy7 s.h.length k.keep) else none
   | none=>none)
 | _=>none
theorem qrK {o1:List Step→CS→Option (AExit × CS)} {o2:List Step→St→Option (AExit × St)} (ho:∀ l s,Sim (o1 l s) (o2 l s.st)) {b1 c1:CS→Option (AExit × CS)} {b2 c2:St→Option (AExit × St)} (hb:∀ s,Sim (b1 s) (b2 s.st)) (hc:∀ s,Sim (c1 s) (c2 s.st)) (k:RangeK) (s:CS) :
  Sim (qpI o1 k b1 c1 s) (qkv o2 k b2 c2 s.st):=by
 intro r hr
 unfold qpI at hr
 rw[qeB]
 split at hr
 case h_2=>cases hr
 rename_i s1 he
 have g1:=ho _ _ _ he
 rw[g1]
 dsimp only[qsy]
 split at hr
 case h_2=>cases hr
 rename_i es hes
 show (match qcu k.str (opd s1.tm k.m) s1.h with | some es=>_ | none=>none)=_
 rw[hes]
 dsimp only
 split at hr
 case isFalse=>cases hr
 rename_i hcc
 refine (qcB (qbR _ _)).2 fun es' hoo=>?_
 have hes':es'=es:=by
  unfold qcg at hoo
  rcases hcc with hcc | hcc
  ·rw[if_pos hcc] at hoo
   exact hoo
  ·split at hoo
   ·exact hoo
   ·match es,hcc,hoo with
    | [],_,hoo=>exact List.perm_nil.1 hoo
    | [x],_,hoo=>exact List.perm_singleton.1 hoo
 rw[hes']
 unfold qcp
 refine Sim.map_gc (x:=match qw5 o1 s1.h.length k b1 es (s1.put (some k.it) (.ptr (some (s1.h.length,0))) (qk3 (opd s1.tm k.m) s1.h)) with
    | some (.normal,s2)=>c1 ⟨s2.l,s2.d,qci (opd s1.tm k.m) s1.h s2.h⟩
    | some (e,s2)=>some (e,⟨s2.l,s2.d,qci (opd s1.tm k.m) s1.h s2.h⟩)
    | none=>none) (fun q hq=>?_) s.h.length k.keep r hr
 have hp:=qgJ s1 (some k.it) (.ptr (some (s1.h.length,0))) (qk3 (opd s1.tm k.m) s1.h)
 cases hx:qw5 o1 s1.h.length k b1 es (s1.put (some k.it) (.ptr (some (s1.h.length,0))) (qk3 (opd s1.tm k.m) s1.h)) with
 | none=>rw[hx] at hq;cases hq
 | some x =>
   have g:=qqw ho hb s1.h.length k es _ x hx
   rw[hp] at g
   show (match qbj o2 s1.h.length k b2 es ⟨upd s1.tm (some k.it) (.ptr (some (s1.h.length,0))),qk3 (opd s1.tm k.m) s1.h⟩ with
    | some (.normal,s2)=>c2 ⟨s2.tm,qci (opd s1.tm k.m) s1.h s2.h⟩
    | some (e,s2)=>some (e,⟨s2.tm,qci (opd s1.tm k.m) s1.h s2.h⟩)
    | none=>none)=_
   rw[g]
   rw[hx] at hq
   obtain⟨e,s2⟩:=x
   cases e with
   | normal=>exact hc _ q hq
   | _=>injection hq with hq;rw[← hq];rfl
def qgO (pure:Nat→Bool) (call:CallT) (n:Nat):ACode→CS→Option (AExit × CS)
 | .skip,s=>some (.normal,s)
 | .ops l,s=>qvb pure call l s
 | .draw l cs,s=>qy6 pure call l cs s
 | .kops l,s=>qrJ pure call l s
 | .view c,s=>qgO pure call n c (qvg s)
 | .mdraw k l ns,s=>qAg k l ns s
 | .seq a b,s=>qw6 (qgO pure call n b) (qgO pure call n a s)
 | .cond c a b,s=>(match opd s.tm c with | .bool t=>if t then qgO pure call n a s else qgO pure call n b s | _=>none)
 | .block id c,s=>qhb id (qgO pure call n c s)
 | .loop c,s=>qsU (qgO pure call n c) n s
 | .gloop k c,s=>qsU (fun s1=>qgO pure call n c (cgc s.h.length k s1)) n s
 | .frame k c,s=>(qgO pure call n c s).map (qy7 s.h.length k)
 | .freeze t c,s=>qgO pure call n c (qmu t s)
 | .range k b c,s=>qpI (qvb pure call) k (qgO pure call n b) (qgO pure call n c) s
 | .exit id,s=>some (.exit id,s)
 | .ret,s=>some (.ret,s)
 | .stuck,_=>none
theorem qm7 (e:AExit) (s:CS):Sim (some (e,s)) (some (e,s.st)):=fun r hr=>by
 injection hr with hr
 rw[← hr]
 rfl
theorem qsS (pure:Nat→Bool) (call:CallT) (n:Nat):∀ (c:ACode) (s:CS),Sim (qgO pure call n c s) (qaG pure call n c s.st):=by
 intro c
 induction c with
 | skip=>intro s;exact qm7 _ _
 | ops l=>intro s;exact qf2 pure call l s
 | draw l cs=>intro s;exact quS pure call l cs s
 | kops l=>intro s;exact qjD pure call l s
 | mdraw k l ns=>intro s;exact qu9 k l ns s
 | seq a b iha ihb=>intro s;exact qny ihb (iha s)
 | cond c a b iha ihb =>
   intro s r hr
   rw[qgO] at hr
   rw[qaG]
   show (match opd s.tm c with | .bool t=>_ | _=>none)=_
   split at hr
   ·rename_i t ht
    cases t with
    | true=>exact iha s r hr
    | false=>exact ihb s r hr
   ·cases hr
 | block id c ih=>intro s;exact qhX (ih s)
 | loop c ih=>intro s;exact qjB ih n s
 | gloop k c ih =>
   intro s
   refine qjB (fun s1=>?_) n s
   have:=ih (cgc s.h.length k s1)
   rw[qlr] at this
   exact this
 | freeze t c ih =>
   intro s
   have:=ih (qmu t s)
   rw[qrN] at this
   exact this
 | view c ih =>
   intro s
   have:=ih (qvg s)
   rw[qvh] at this
   exact this
 | range k b c ihb ihc=>intro s;exact qrK (fun l s=>qf2 pure call l s) ihb ihc k s
 | frame k c ih=>intro s;exact (ih s).map_gc _ _
 | exit id=>intro s;exact qm7 _ _
 | ret=>intro s;exact qm7 _ _
 | stuck=>intro s r hr;cases hr
def qww (rs:List ARVar) (r:Option (AExit × CS)):Option (ARes × Heap) :=
 match r with
 | some (.normal,s) | some (.ret,s)=>(match qac s.tm s.h rs with | some vs=>some (.val (qaj vs),s.h) | none=>none)
 | some (.panic v,s)=>some (.panic v,s.h)
 | _=>none
theorem qsT {rs:List ARVar} {x:Option (AExit × CS)} {y:Option (AExit × St)} (h:Sim x y):Le (qww rs x) (qap rs y):=by
 intro r hr
 cases hx:x with
 | none=>rw[hx] at hr;cases hr
 | some q =>
   rw[h q hx]
   rw[hx] at hr
   obtain⟨e,s⟩:=q
   cases e<;>exact hr
def qpS (args:List AVal):Nat→List (Nat × AVal)
 | i => match args with
   | []=>[]
   | v::vs=>(i,v)::qpS vs (i+1)
theorem qvD (h:Heap) (args:List AVal):(CS.mk (qpS args 0) (.tuple []) h).st=⟨qdT args,h⟩:=by
 have key:∀ (args:List AVal) (k:Nat),(CS.mk (qpS args k) (.tuple []) h).tm=fun i=>if k≤i then (args[i-k]?).getD (.tuple []) else .tuple []:=by
  intro args
  induction args with
  | nil=>intro k;funext i;simp[qpS,CS.tm]
  | cons v vs ih =>
    intro k
    rw[qpS,qqd,ih]
    funext i
    by_cases hi:i=k
    ·subst hi
     simp
    ·rw[if_neg hi]
     dsimp only
     by_cases hk:k≤i
     ·rw[if_pos hk,if_pos (by omega)]
      have:i-k=i-(k+1)+1:=by omega
      rw[this,List.getElem?_cons_succ]
     ·rw[if_neg hk,if_neg (by omega)]
 unfold CS.st
 rw[key]
 congr 1
def qsv (T:Nat→Option AFn) (P:Nat→List AVal→Heap→Option (ARes × Heap)):Nat→CallT
 | 0,_,_,_=>none
 | n + 1,f,args,h =>
   match T f with
   | some fn=>qww fn.results (qgO (fun _=>true) (qsv T P n) n fn.body ⟨qpS args 0,.tuple [],h⟩)
   | none=>P f args h
theorem qwt {L:Lib} (hp:∀ f,L.pure f=true) (hs:∀ f,L.fns f≠none→L.summ f=none) (T:Nat→Option AFn) (P:Nat→List AVal→Heap→Option (ARes × Heap)) (hT:∀ f fn,T f=some fn→L.fns f=some fn)
  (hP:∀ f a h r,P f a h=some r→call L f a h=some r):∀ n f a h,Le (qsv T P n f a h) (call L f a h):=by
 have hpp:(fun _=>true)=L.pure:=by funext f;exact (hp f).symm
 intro n
 induction n with
 | zero=>intro f a h r hr;cases hr
 | succ n ih =>
   intro f a h r hr
   rw[qsv] at hr
   split at hr
   ·rename_i fn hf
    refine qaK (hs f (by rw[hT f fn hf];simp)) (hT f fn hf) ?_
    rw[hpp] at hr
    have g:=qsS L.pure (qsv T P n) n fn.body ⟨qpS a 0,.tuple [],h⟩
    rw[qvD] at g
    exact qsT (g.le (qnh ih n fn.body _)) r hr
   ·exact hP f a h r hr
def qvG (v:AVal):Option (ARes × Heap)→Bool
 | some (.val u,_)=>eqV u v
 | _=>false
theorem qvH {v:AVal} {r:Option (ARes × Heap)} (h:qvG v r=true):∃ H,r=some (.val v,H):=by
 unfold qvG at h
 split at h
 ·rename_i u H
  exact⟨H,by rw[qjR h]⟩
 ·cases h
end Go.Abs
